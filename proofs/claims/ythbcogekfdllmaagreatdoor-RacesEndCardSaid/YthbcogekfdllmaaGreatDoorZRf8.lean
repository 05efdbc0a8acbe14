/-
  race.Results by a contract.
-/
import Derived.Test.YthbcogekfdllmaaGreatDoorZSplP
import Derived.Test.YthbcogekfdllmaaGreatDoorZSortRs
import Derived.Test.YthbcogekfdllmaaGreatDoorZRfT
import Derived.Test.YthbcogekfdllmaaGreatDoorZAppAny
import Derived.Deep.RegionLaw
namespace Go.Proofs.YthbcogekfdllmaaGreatDoor
open Go Go.RowKit
attribute [local go_sem ↓] Go.wp_at_zero Go.wp_at_succ

/-- one more result -/
theorem step_app_rs {w0 V : World} {y : Res} {L : List Rsc} {A : Option Addr} {n c : Nat} {ys : List Value} {gl : Nat} {ops : Array Oper} {o : Oper} {a : Act} {K : Act → World → Prop} {Q : Exit → Act → World → Prop} {E : Prop} (hgd : o.guard = none) (s x : Operand) (ho : o.op = .call { callee := .builtin .append, args := #[s, x], argTypes := #[35, 35] })
    (hT : Sq w0 V (rBlk gl 43 #[.int .i64 y.1, .string y.2.1, .int .i64 y.2.2] :: rOwn w0.heap.size 43 3 (.slice A n c) n ys :: L)) (hn : n ≤ 1000) (hs : a.eval s = .slice A n c) (hx : a.eval x = .slice (some ⟨gl, 0, none⟩) 1 1)
    (h : ∀ A' c' V', Sq w0 V' (rOwn w0.heap.size 43 3 (.slice A' (n + 1) c') (n + 1) (ys ++ resC y) :: L) → K (a.put o.dst (.slice A' (n + 1) c')) V') :
    if Region.wanted o (yielded ops a.tmps) = true then Oper.wp Tryz.prog o a V K Q else E := by
  obtain ⟨i0, hi, hz0, hz1, hz2⟩ := info_parts info_res
  have hw : Region.wanted o (yielded ops a.tmps) = true := by simp [Region.wanted, hgd]
  rw [if_pos hw]
  have hb' : Blk V gl 43 #[.int .i64 y.1, .string y.2.1, .int .i64 y.2.2] := hT.head
  have hS1 := hT.tail
  have hown : V.ownsRow w0.heap.size 43 3 (.slice A n c) n ys := hS1.head
  have hlt := hb'.lt
  have hr : Rd V V.heap.size 3 (.slice (some ⟨gl, 0, none⟩) 1 1) 1 (resC y) := by
    have := blkRd (b := V.heap.size) 3 1 hb' (by omega) (by decide) (by simp)
    unfold resC
    simpa using this
  refine wp_app_rd V s x 35 ho w0.heap.size 43 i0 (.agg #[.int .i64 0, .string ⟨#[]⟩, .int .i64 0]) 3 32 Tryz.underlying35 hi hz0 hz1 hz2 rfl (by decide) _ n _ hs hown _ _ 1 1 (resC y) hx hr (resC_one y) (by unfold maxLen; omega) (by omega) hT.size ?_
  intro v' w' h1 h2 h3
  obtain ⟨A', c', rfl⟩ := own_form h1
  exact h A' c' w' (hS1.append h1 h2 h3)
def rsF (l : List Stp) : Int := if stF l = 0 then (if (rfolP l 345686400000).1.st = true then 0 else 11) else stF l
abbrev rRs (base : Nat) (A : Option Addr) (n c : Nat) (xs : List Res) : Rsc := rOwn base 43 3 (.slice A n c) n (xs.flatMap resC)
def ResS (l : List Stp) (w : World) (e : Ending) (w' : World) : Prop :=
  ∃ (v : Value) (ys : List Res), e = .returned (.tuple #[v, .int .i64 (rsF l)]) ∧ (rsF l = 0 → ResR (rfolP l 345686400000).1.ks (dP (rfolP l 345686400000).1) (rfolP l 345686400000).1.at0 ys) ∧ (rsF l ≠ 0 → ys = []) ∧ w'.ownsRow w.heap.size 43 3 v ys.length (ys.flatMap resC) ∧ Below w.heap.size w w'
/-- others ranked up to k -/
def othTo (q : Int) (O : List Res) (k : Nat) : List Res := (O.take k).map (fun x => (q, x.2.1, x.2.2)) ++ O.drop k
theorem othTo_len (q : Int) (O : List Res) (k : Nat) : (othTo q O k).length = O.length := by unfold othTo; rw [List.length_append, List.length_map, List.length_take, List.length_drop]; omega
theorem othTo_none (q : Int) (O : List Res) : othTo q O 0 = O := by unfold othTo; simp
theorem othTo_all (q : Int) (O : List Res) : othTo q O O.length = O.map (fun x => (q, x.2.1, x.2.2)) := by unfold othTo; rw [List.drop_length, List.append_nil, List.take_length]
theorem othTo_at (q : Int) (O : List Res) (k : Nat) (hk : k < O.length) : (othTo q O k)[k]'(by rw [othTo_len]; exact hk) = O[k] := by
  unfold othTo
  rw [List.getElem_append, dif_neg (by rw [List.length_map, List.length_take]; omega), List.getElem_drop]
  congr 1
  rw [List.length_map, List.length_take]; omega
theorem othTo_step (q : Int) (O : List Res) (k : Nat) (hk : k < O.length) : othTo q O (k + 1) = (othTo q O k).set k (q, O[k].2.1, O[k].2.2) := by
  unfold othTo
  rw [List.take_succ_eq_append_getElem hk, List.map_append, List.drop_eq_getElem_cons hk, List.set_append_right _ _ (by rw [List.length_map, List.length_take]; omega)]
  have e : k - ((O.take k).map (fun x => ((q, x.2.1, x.2.2) : Res))).length = 0 := by rw [List.length_map, List.length_take]; omega
  rw [e, List.set_cons_zero, List.append_assoc]
  rfl
set_option maxRecDepth 100000 in
set_option maxHeartbeats 8000000 in
theorem raceResults_calls (b : Nat) (A : Option Addr) (n c : Nat) (l : List Stp) (w : World) (hr : Rd w b 3 (.slice A n c) n (l.flatMap stC)) (hz : ∀ s ∈ l, s.who.size ≤ 1000000) (hn : n ≤ 1000) (hnm : ∃ N : List ByteArray, N.length ≤ 19 ∧ ∀ s ∈ l, s.who ∈ N) :
    Calls Tryz.prog 10 #[.slice A n c] w (ResS l w) := by
  have HF := Lib.hid (checkSteps_calls b A n c l w hr hz)
  obtain ⟨i0, hi, hi0, hi1, hi2⟩ := info_parts info_res
  obtain ⟨R, hR⟩ : ∃ R, rsF l = R := ⟨_, rfl⟩
  have HRH : Hid (rsF l = R) := Lib.hid hR
  by_cases h0 : stF l = 0
  · have HFO := Lib.hid (fun W (hW : Below w.heap.size w W) => rfollow_calls b A n c l 345686400000 W (hr.below hW) (stF_ok h0).1 hn)
    obtain ⟨r, hr0⟩ : ∃ r, rfolP l 345686400000 = r := ⟨_, rfl⟩
    obtain ⟨ht, hkk⟩ := rfolP_inv 345686400000 (stF_ok h0).1
    rw [hr0] at HFO ht hkk
    have HRF : Hid (rfolP l 345686400000 = r) := Lib.hid hr0
    have HTF := Lib.hid ht
    have hRv : R = if r.1.st = true then 0 else 11 := by rw [← hR]; unfold rsF; rw [if_pos h0, hr0]
    have HRV := Lib.hid hRv
    rw [h0] at HF
    have H19 : Hid (KF r.1 → r.1.ks.length ≤ 19) := Lib.hid (fun hK => by
      obtain ⟨N, h1, h2⟩ := hnm
      refine Nat.le_trans (seen_leR _ N hK.nd (fun s hs => ?_)) h1
      obtain ⟨x, hx, he⟩ := hkk s hs
      exact he ▸ h2 x hx)
    clear h0 hr hz hr0 hR ht hkk hRv hnm
    go_enter Tryz.func10, Tryz.ntmps10
    go_wp2_with fail
    refine HF.out.mono ?_
    rintro e w1 ⟨rfl, hb1⟩
    go_wp2_with fail
    refine (HFO.out _ hb1).mono ?_
    rintro e w2 ⟨g, m, N, A1, c1, rfl, hK, hN, hb, hS0⟩
    have hS := hS0.lift hb1
    have HKF := Lib.hid hK
    have H19b := Lib.hid (H19.out hK)
    obtain ⟨F, bad⟩ := r
    obtain ⟨k0, bad⟩ := bad
    obtain ⟨st, hst⟩ : ∃ st, F.st = st := ⟨_, rfl⟩
    obtain ⟨a0, ha0⟩ : ∃ a0, F.at0 = a0 := ⟨_, rfl⟩
    simp only at hS HKF HTF H19b HRV hst ha0
    unfold fldL at hS
    rw [hst, ha0] at hS
    have HRV2 : Hid (R = if st = true then 0 else 11) := Lib.hid (by rw [← hst]; exact HRV.out)
    have HA0 : Hid (F.at0 = a0) := Lib.hid ha0
    have hSx : Sq w w2 (rBlk g 118 #[.map (some m), .bool st, .int .i64 a0] :: rMap 9 m N (rfF F) :: []) := (hS.drop 2 rfl rfl)
    have hbG : Blk w2 g 118 #[.map (some m), .bool st, .int .i64 a0] := hS.nth 0 rfl
    have cg := hbG.cell 0
    have cg1 := hbG.cell 1
    have HMP : MapS w2 9 m N (rfF F) := hSx.nth 1 rfl
    have HKE := Lib.hid (keysE_calls (some m) w2)
    have HSE := Lib.hid (sortedE_calls m N (rfF F) F.ks w2 HMP HKF.out.keys (by omega))
    clear hS0 hS hK hbG H19 HRV hst ha0
    cases st
    · obtain rfl : R = 11 := HRV2.out
      have hfin := hSx.below
      clear hSx
      go_wp2_with fail
      go_ret2
      exact ⟨_, [], by rw [HRH.out]; rfl, (fun h => by rw [HRH.out] at h; cases h), fun _ => rfl, World.ownsRow_nil _ _ _ _, hfin⟩
    · obtain rfl : R = 0 := HRV2.out
      have hSa := hSx.alloc (.cells #[.map (some m)] 116)
      clear hSx HMP
      go_wp2_with (first
        | (go_at_call 52; refine HKE.out.mono ?_; rintro e w3 ⟨rfl, rfl⟩)
        | (go_at_call 51; refine HSE.out.mono ?_; rintro e w4 ⟨v4, kb, rfl, hkp, hku, ho4, hb4⟩; obtain ⟨A4, c4, hv4⟩ := own_form ho4; subst hv4; have hS4 := ((hSa.ownB hb4 ho4).nil w.heap.size 43 3).nil w.heap.size 43 3))
      have HKP := Lib.hid hkp
      have HKU := Lib.hid hku
      obtain ⟨q, hq⟩ : ∃ q, kb.length = q := ⟨_, rfl⟩
      have hqn : q ≤ 19 := by
        have h1 := hkp.length_eq
        have h2 := H19b.out
        omega
      have HQ := Lib.hid hq
      rw [hq] at hS4 ⊢
      obtain ⟨d, hd⟩ : ∃ d, dP F = d := ⟨_, rfl⟩
      have HD := Lib.hid hd
      clear hkp hku hSa hb4 ho4 HKE HSE hq cg cg1 hd HRV2
      go_loopw [7, 8, 36] (fun s7 s8 i wr => ∃ (k : Nat) (A' : Option Addr) (c' : Nat) (B' : Option Addr) (d' nd no : Nat), k ≤ q ∧ i = .int .i64 k ∧ s7 = .slice A' nd c' ∧ s8 = .slice B' no d' ∧ Hid ((dnL d a0 (kb.take k)).length = nd) ∧ Hid ((otL d (kb.take k)).length = no) ∧ nd ≤ k ∧ no ≤ k ∧
        Sq w wr (rRs w.heap.size A' nd c' (dnL d a0 (kb.take k)) :: rRs w.heap.size B' no d' (otL d (kb.take k)) :: rOwn w.heap.size 9 1 (.slice A4 q c4) q (strsV kb) :: rBlk g 118 #[.map (some m), .bool true, .int .i64 a0] :: rMap 9 m N (rfF F) :: [])) (fun _ _ i _ => q - (intOf i).toNat)
      case atStart => exact ⟨0, none, 0, none, 0, 0, 0, Nat.zero_le _, rfl, rfl, rfl, Lib.hid rfl, Lib.hid rfl, Nat.le_refl _, Nat.le_refl _, hS4⟩
      case round =>
        clear hS4
        obtain ⟨k, A', c', B', d', nd, no, hk, rfl, rfl, rfl, HND, HNO, hnd, hno, hS⟩ := hrel
        obtain ⟨wo, hwo⟩ : ∃ z, z = wr := ⟨_, rfl⟩
        subst hwo
        by_cases hlt : k < q
        · have hkr : k < kb.length := by rw [HQ.out]; exact hlt
          have hO4 : wo.ownsRow w.heap.size 9 1 (.slice A4 q c4) q (strsV kb) := hS.nth 2 rfl
          obtain ⟨g4, cap4, hv, _⟩ := hO4.form (by omega)
          injection hv with hA4 _ hc4
          subst hA4
          obtain ⟨s, hs⟩ : ∃ s, kb[k] = s := ⟨_, rfl⟩
          have ck : wo.cell? ⟨g4, k, none⟩ = some (.string s) := by
            have := hO4.cellAt k (by rw [Nat.mul_one]; exact hlt)
            rw [this]
            unfold strsV
            rw [List.getElem?_map, List.getElem?_eq_getElem hkr, hs]
            rfl
          have hsk : s ∈ F.ks := HKP.out.mem_iff.1 (by rw [← hs]; exact List.getElem_mem hkr)
          have hsz := HKF.out.sz s hsk
          have h1 := (HKF.out.iff s).1 hsk
          obtain ⟨⟨cc, at_⟩, hv2⟩ := Option.isSome_iff_exists.1 h1
          have hcc4 : cc ≤ 4 := HKF.out.c4 s cc (by unfold hwP; rw [hv2]; rfl)
          have hda := dP_at hv2
          rw [HD.out] at hda
          obtain ⟨hat0, hat1⟩ := HTF.out.en s _ hv2
          obtain ⟨hz0, hz1⟩ := HTF.out.a0
          rw [HA0.out] at hz0 hz1
          simp only at hat0 hat1
          have hMP : MapS wo 9 m N (rfF F) := hS.nth 4 rfl
          have hbG : Blk wo g 118 #[.map (some m), .bool true, .int .i64 a0] := hS.nth 3 rfl
          have cg := hbG.cell 0
          obtain ⟨hb', hhb⟩ : ∃ hb', hb' = hwB cc := ⟨_, rfl⟩
          have hBB := litB hb' [100, 111, 110, 101] (hwB 3) rfl
          have hlk : (Instr.lookup 116 (.map (some m)) (.string s) false).run Tryz.prog wo = .ok (.agg #[.string hb', .int .i64 at_]) wo := by
            have := hMP.look (t := 116) (e := 124) Tryz.underlying9 Tryz.underlying116 (zero_ent wo) (s := s) (by unfold maxLen; omega)
            rw [show rfF F s = some (entV (cc, at_)) by unfold rfF; rw [hv2]; rfl] at this
            rw [hhb]
            exact this
          have hdt := dnL_take d a0 kb k hkr
          have hot := otL_take d kb k hkr
          rw [hs, hda] at hdt hot
          have hk0 : (0 : Int) ≤ (k : Int) := by omega
          have hk1 : (k : Int) < (q : Int) := by omega
          have hS5 := hS.add #[.string hb', .int .i64 at_] 124
          obtain ⟨gE, hgE⟩ : ∃ gE, gE = wo.heap.size := ⟨_, rfl⟩
          obtain ⟨w5, hw5⟩ : ∃ w5, wo.alloc (.cells #[.string hb', .int .i64 at_] 124) = w5 := ⟨_, rfl⟩
          rw [hw5, ← hgE] at hS5
          have hbE : Blk w5 gE 124 #[.string hb', .int .i64 at_] := hS5.head
          have hbG5 : Blk w5 g 118 #[.map (some m), .bool true, .int .i64 a0] := hS5.nth 4 rfl
          by_cases h3 : cc = 3
          · subst h3
            have hB3 : (hb'.toList == [100, 111, 110, 101]) = true := hBB.trans (decide_eq_true hhb)
            have hda2 : d s = some at_ := by rw [hda, if_pos rfl]
            have htm : tmE d a0 s = at_ - a0 := by unfold tmE; rw [hda2]
            rw [if_pos (by rfl), htm] at hdt
            rw [if_pos (by rfl)] at hot
            have HDT := Lib.hid hdt
            have HOT := Lib.hid hot
            have hT := ((hS5.add #[.int .i64 0, .string s, .int .i64 (at_ - a0)] 43).drew.front 2 rfl rfl).front 1 rfl rfl
            have HSC : Hid (∀ W, Below w5.heap.size w5 W → W.cell? ⟨gE, 1, none⟩ = some (.int .i64 at_) ∧ W.cell? ⟨g, 2, none⟩ = some (.int .i64 a0)) := Lib.hid (fun W h => ⟨(hbE.below h).cell 1, (hbG5.below h).cell 2⟩)
            have HSV : Hid (∀ (V : World) (r1 r2 r3 r4 : Rsc), Sq w V (r1 :: rBlk gE 124 #[.string hb', .int .i64 at_] :: r2 :: r3 :: rBlk g 118 #[.map (some m), .bool true, .int .i64 a0] :: [r4]) → V.cell? ⟨gE, 1, none⟩ = some (.int .i64 at_) ∧ V.cell? ⟨g, 2, none⟩ = some (.int .i64 a0)) := Lib.hid (fun V r1 r2 r3 r4 h => by
              have hE : Blk V gE 124 #[.string hb', .int .i64 at_] := h.nth 1 rfl
              have hG : Blk V g 118 #[.map (some m), .bool true, .int .i64 a0] := h.nth 4 rfl
              exact ⟨hE.cell 1, hG.cell 2⟩)
            have hwr : IntKind.i64.wrap (at_ - a0) = at_ - a0 := IntWalk.i64_in _ (by omega)
            have hdr5 : Below w5.heap.size w5 w5.drew := below_drewN (Below.refl _ _) 1
            have e0 : w5.cell? ⟨wo.heap.size, 0, none⟩ = some (.string hb') := by rw [← hgE]; exact hbE.cell 0
            clear hO4 hsk h1 hv2 hMP hbG hhb hs hc4 hdt hot hda hda2 htm hBB hcc4 hS hS5 hbE hbG5
            go_upto_region 13 with (fail)
            rw [← hgE]
            clear hgE hw5 hlk ck cg e0
            go_wp2_with fail
            go_region_held3 (fun W => W.cell? ⟨gE, 1, none⟩ = some (.int .i64 at_) ∧ W.cell? ⟨g, 2, none⟩ = some (.int .i64 a0))
              (first | exact HSC.out _ hdr5 | exact HSC.out _ (below_drewN ((Below.refl _ _).alloc (Nat.le_refl _) _) 1) | exact HSV.out _ _ _ _ _ hV | go_keep)
              (first
                | ((with_reducible refine step_app_rs (y := (0, s, at_ - a0)) rfl (.tmp 49) (.tmp 59) rfl hT (by omega) rfl rfl ?_); intro A9 c9 V hV))
            all_goals
              have hV2 := hV.drop 1 rfl rfl
              have e2 : dnL d a0 (kb.take k) ++ [(0, s, at_ - a0)] = dnL d a0 (kb.take (k + 1)) := HDT.out.symm
              go_wp2_with fail
              go_roundw
              case rel => exact ⟨k + 1, A9, c9, B', d', nd + 1, no, by omega, by go_num, rfl, rfl, Lib.hid (by rw [HDT.out, List.length_append, HND.out]; rfl), Lib.hid (by rw [HOT.out]; exact HNO.out), by omega, by omega, by
                rw [HOT.out, HDT.out]
                unfold rRs
                rw [flat_snoc]
                exact hV2⟩
              case measure => simp [intOf]; omega
          · have hB3 : (hb'.toList == [100, 111, 110, 101]) = false := hBB.trans (decide_eq_false (fun h => h3 (hwB_inj hcc4 (by omega) (hhb ▸ h))))
            rw [if_neg h3] at hdt hot
            rw [if_neg (by simp)] at hdt hot
            have HDT := Lib.hid hdt
            have HOT := Lib.hid hot
            have hS6 := (hS5.front 2 rfl rfl)
            have HO : w5.ownsRow w.heap.size 43 3 (.slice B' no d') no ((otL d (kb.take k)).flatMap resC) := hS6.head
            have hz2 := hS6.size
            have e0 : w5.cell? ⟨wo.heap.size, 0, none⟩ = some (.string hb') := by rw [← hgE]; exact hbE.cell 0
            clear hO4 hsk h1 hv2 hMP hbG hhb hs hc4 hdt hot hda hBB hcc4 hS hS5 hbE hbG5
            go_upto_region 14 with (fail)
            clear hgE hw5 hlk ck cg e0
            go_wp2_with (first
              | (at_builtin; go_loud (refine wpList_append_own_at _ rfl _ _ 35 rfl w.heap.size 43 i0 (.agg #[.int .i64 0, .string ⟨#[]⟩, .int .i64 0]) 3 32 Tryz.underlying35 hi hi0 hi1 hi2 rfl (by decide) _ _ _ rfl (HO.alloc _) ⟨w5.heap.size, 0, none⟩ 1 1 [.int .i64 0, .string s, .int .i64 0] rfl rfl (World.news_of_block (heap_alloc_new _ _)) (resC_one (0, s, 0)) (by unfold maxLen; omega) (by omega) (by simp; omega) ?_); intro v' w8 hown' hgrow _ hblk; have hS8 := ((hS6.alloc _).append hown' hgrow hblk); obtain ⟨A8, c8, hv8⟩ := own_form hown'; subst hv8; clear hown' hgrow hblk HO))
            have hS9 := (hS8.drop 1 rfl rfl).front 1 rfl rfl
            go_roundw
            case rel => exact ⟨k + 1, A', c', A8, c8, nd, no + 1, by omega, by go_num, rfl, rfl, Lib.hid (by rw [HDT.out]; exact HND.out), Lib.hid (by rw [HOT.out, List.length_append, HNO.out]; rfl), by omega, by omega, by
              rw [HOT.out, HDT.out]
              unfold rRs at hS9 ⊢
              rw [flat_snoc]
              exact hS9⟩
            case measure => simp [intOf]; omega
        · obtain rfl : k = q := by omega
          have e9 : kb.take k = kb := List.take_of_length_le (by rw [HQ.out]; exact Nat.le_refl _)
          rw [e9] at hS HND HNO
          have HRR := dnL_up (d := d) (a0 := a0) HKU.out
          have HDP : Hid (∀ s a, d s = some a → a0 < a) := Lib.hid (fun s a h => by
            rw [← HD.out] at h
            rw [← HA0.out]
            exact HTF.out.dn s a (dP_some h))
          have HRESL : Hid (∀ so : List Res, so.Perm (dnL d a0 kb) → so.Pairwise (fun a b => 0 ≤ cfN b a) → ResR F.ks d a0 (resL so d kb)) := Lib.hid (fun so h1 h2 => resL_ok HKP.out HKU.out h1 h2 HDP.out)
          obtain ⟨O, hO⟩ : ∃ O, otL d kb = O := ⟨_, rfl⟩
          have HRESL2 : Hid (∀ so : List Res, so.Perm (dnL d a0 kb) → so.Pairwise (fun a b => 0 ≤ cfN b a) → ResR F.ks d a0 (rankL so ++ othTo ((so.length : Int) + 1) O O.length)) := Lib.hid (fun so h1 h2 => by
            have := HRESL.out so h1 h2
            unfold resL at this
            rw [othTo_all, ← hO]
            exact this)
          rw [hO] at hS HNO
          obtain ⟨D, hDD⟩ : ∃ D, dnL d a0 kb = D := ⟨_, rfl⟩
          rw [hDD] at hS HND HRR HRESL2
          have hS2 := hS.drop 2 rfl rfl
          have HST := Lib.hid (sortStableRs_calls w wo A' nd c' D _ (by omega) HRR HND.out hS2)
          clear hS hO hDD HRESL HRR e9 hS2 HDP
          go_wp2_with (first
            | (go_at_call 53; refine HST.out.mono ?_; rintro e w5 ⟨rfl, so, hsp, hsu, hS5⟩))
          have HSP := Lib.hid hsp
          have HSL : Hid (so.length = nd) := Lib.hid (hsp.length_eq.trans HND.out)
          have HSU := Lib.hid (HRESL2.out so hsp hsu)
          have HTM : Hid (so.Pairwise (fun a b => a.2.2 ≤ b.2.2)) := Lib.hid (hsu.imp (fun {a b} h => by
            unfold cfN at h
            by_cases h0 : cmpI b.2.2 a.2.2 = 0
            · have := cmpI_z h0; omega
            · rw [if_neg h0] at h
              unfold cmpI at h
              split at h
              · omega
              · omega))
          have hS6 : Sq w w5 (rRs w.heap.size A' nd c' (rankTo so 0) :: rRs w.heap.size B' no d' O :: rBlk g 118 #[.map (some m), .bool true, .int .i64 a0] :: rMap 9 m N (rfF F) :: []) := by
            rw [rankTo_none]
            exact hS5
          clear hsp hsu hS5 HST HRESL2
          go_loopw [71] (fun i wr => ∃ k : Nat, k ≤ nd ∧ i = .int .i64 k ∧ Sq w wr (rRs w.heap.size A' nd c' (rankTo so k) :: rRs w.heap.size B' no d' O :: rBlk g 118 #[.map (some m), .bool true, .int .i64 a0] :: rMap 9 m N (rfF F) :: [])) (fun i _ => nd - (intOf i).toNat)
          case atStart => exact ⟨0, Nat.zero_le _, rfl, hS6⟩
          case round =>
            clear hS6
            obtain ⟨k, hk, rfl, hS⟩ := hrel
            obtain ⟨wa, hwa⟩ : ∃ z, z = wr := ⟨_, rfl⟩
            subst hwa
            by_cases hlt : k < nd
            · have hks : k < so.length := by rw [HSL.out]; exact hlt
              have hO1 : wa.ownsRow w.heap.size 43 3 (.slice A' nd c') nd ((rankTo so k).flatMap resC) := hS.head
              obtain ⟨g1, cap1, hv, _⟩ := hO1.form (by omega)
              injection hv with hA1 _ hc1
              subst hA1
              have hkL : k < (rankTo so k).length := by rw [rankTo_len]; exact hks
              have hLl : (rankTo so k).length = nd := by rw [rankTo_len]; exact HSL.out
              have hLk : (rankTo so k)[k] = so[k] := by rw [rankTo_at so k k hks, if_neg (by omega)]
              obtain ⟨x, hx⟩ : ∃ x, so[k] = x := ⟨_, rfl⟩
              rw [hx] at hLk
              have hS2 := Sq.field resC 3 resC_len (rs := rankTo so k) (by rw [hLl]; exact hS) k 0 hkL (by omega) (.int .i64 ((k : Int) + 1)) ((k : Int) + 1, x.2.1, x.2.2) (by rw [hLk]; rfl)
              rw [List.length_set, hLl] at hS2
              have y0 := own_cell resC 3 resC_len hO1 k 0 hkL hlt (by omega)
              replace y0 : wa.cell? ⟨g1, k * 3, none⟩ = some (.int .i64 (rankTo so k)[k].1) := y0
              have f0 := hO1.frozenAt (k * 3)
              obtain ⟨z0, hz0⟩ : ∃ z0, (rankTo so k)[k].1 = z0 := ⟨_, rfl⟩
              rw [hz0] at y0
              have hk0 : (0 : Int) ≤ (k : Int) := by omega
              have hk1 : (k : Int) < (nd : Int) := by omega
              have HLK := Lib.hid hLk
              have HX := Lib.hid hx
              clear hO1 hc1 hS hz0 hLk hx
              go_upto_region 21 with (fail)
              obtain ⟨W2, hW2⟩ : ∃ W2, wa.setCell ⟨g1, k * 3, none⟩ (.int .i64 ((k : Int) + 1)) = W2 := ⟨_, rfl⟩
              rw [Nat.add_zero, hW2] at hS2
              rw [hW2]
              clear hW2 y0 f0
              have hL1l : ((rankTo so k).set k ((k : Int) + 1, x.2.1, x.2.2)).length = nd := by rw [List.length_set]; exact hLl
              have HL1L := Lib.hid hL1l
              have HTA : Hid (∀ (W : World) (j : Nat) (hj : j < nd), W.ownsRow w.heap.size 43 3 (.slice (some ⟨g1, 0, none⟩) nd c') nd (((rankTo so k).set k ((k : Int) + 1, x.2.1, x.2.2)).flatMap resC) → ∃ y : Res, ((rankTo so k).set k ((k : Int) + 1, x.2.1, x.2.2))[j]? = some y ∧ W.cell? ⟨g1, j * 3, none⟩ = some (.int .i64 y.1) ∧ W.cell? ⟨g1, j * 3 + 2, none⟩ = some (.int .i64 y.2.2)) := Lib.hid (fun W j hj h => by
                have hj2 : j < ((rankTo so k).set k ((k : Int) + 1, x.2.1, x.2.2)).length := by rw [hL1l]; exact hj
                refine ⟨_, List.getElem?_eq_getElem hj2, own_cell resC 3 resC_len h j 0 hj2 hj (by omega), own_cell resC 3 resC_len h j 2 hj2 hj (by omega)⟩)
              have HO2 : W2.ownsRow w.heap.size 43 3 (.slice (some ⟨g1, 0, none⟩) nd c') nd (((rankTo so k).set k ((k : Int) + 1, x.2.1, x.2.2)).flatMap resC) := hS2.head
              clear hL1l
              go_cut [95] (fun s W => ∃ B : Bool, s = .bool B ∧ Hid (B = true ↔ ∃ hp : 0 < k, so[k - 1].2.2 = so[k].2.2) ∧ Sq w W (rRs w.heap.size (some ⟨g1, 0, none⟩) nd c' ((rankTo so k).set k ((k : Int) + 1, x.2.1, x.2.2)) :: rRs w.heap.size B' no d' O :: rBlk g 118 #[.map (some m), .bool true, .int .i64 a0] :: rMap 9 m N (rfF F) :: []))
              case first =>
                have HDR := Lib.hid (fun q => hS2.drewN q)
                clear hS2
                by_cases hkz : k = 0
                · subst hkz
                  clear HO2
                  go_wp2_with fail
                  go_quiet (fail)
                  go_wp2_with fail
                  go_meet
                  exact ⟨false, rfl, Lib.hid ⟨fun h => (by cases h), fun h => (by obtain ⟨hp, _⟩ := h; omega)⟩, HDR.out _⟩
                · obtain ⟨j, rfl⟩ : ∃ j, k = j + 1 := ⟨k - 1, by omega⟩
                  obtain ⟨y, hy, _, cy⟩ := HTA.out W2 j (by omega) HO2
                  obtain ⟨y2, hy2, _, cy2⟩ := HTA.out W2 (j + 1) hlt HO2
                  have hjs : j < so.length := by omega
                  have hyt : y.2.2 = so[j].2.2 := by
                    rw [List.getElem?_set_ne (by omega), List.getElem?_eq_getElem (by rw [rankTo_len]; exact hjs), rankTo_at so (j + 1) j hjs, if_pos (by omega)] at hy
                    injection hy with hy
                    rw [← hy]
                  have hyt2 : y2.2.2 = so[j + 1].2.2 := by
                    rw [List.getElem?_set_self hkL] at hy2
                    injection hy2 with hy2
                    rw [← hy2, HX.out]
                  obtain ⟨t1, ht1⟩ : ∃ t1, so[j].2.2 = t1 := ⟨_, rfl⟩
                  obtain ⟨t2, ht2⟩ : ∃ t2, so[j + 1].2.2 = t2 := ⟨_, rfl⟩
                  rw [hyt, ht1] at cy
                  rw [hyt2, ht2] at cy2
                  have HEQ : Hid ((t2 == t1) = true ↔ ∃ hp : 0 < j + 1, so[j + 1 - 1].2.2 = so[j + 1].2.2) := Lib.hid (by
                    constructor
                    · intro h
                      have h : t2 = t1 := by simpa using h
                      exact ⟨by omega, by show so[j].2.2 = _; rw [ht1, ht2, h]⟩
                    · rintro ⟨_, h⟩
                      have h : so[j].2.2 = so[j + 1].2.2 := h
                      rw [ht1, ht2] at h
                      simp [h])
                  have hj0 : (0 : Int) < ((j + 1 : Nat) : Int) := by omega
                  have hw1 : IntKind.i64.wrap ((((j + 1 : Nat)) : Int) - 1) = (j : Int) := (IntWalk.i64_in _ (by omega)).trans (by omega)
                  have hw2 : IntKind.i64.wrap ((j : Int) + 1 - 1) = (j : Int) := (IntWalk.i64_in _ (by omega)).trans (by omega)
                  have hw3 : IntKind.i64.wrap (j : Int) = (j : Int) := IntWalk.i64_in _ (by omega)
                  have hjn : (j : Int) < (nd : Int) := by omega
                  clear HO2 hy hy2 hyt hyt2 ht1 ht2
                  go_wp2_with fail
                  go_quiet (fail)
                  go_wp2_with fail
                  go_meet
                  exact ⟨t2 == t1, rfl, HEQ, HDR.out _⟩
              case rest =>
                obtain ⟨B, rfl, HB, hS3⟩ := hcut
                clear hS2 HO2
                cases B
                · have HNX : Hid ((rankTo so k).set k ((k : Int) + 1, x.2.1, x.2.2) = rankTo so (k + 1)) := Lib.hid (by
                    have hle := lessT_at HTM.out k hks (fun hp => by
                      have h1 := List.pairwise_iff_getElem.1 HTM.out (k - 1) k (by omega) hks (by omega)
                      have h2 : ¬ so[k - 1].2.2 = so[k].2.2 := fun h => by have := HB.out.2 ⟨hp, h⟩; cases this
                      omega)
                    rw [rankTo_step so k hks, hle, HX.out])
                  have hS4 : Sq w wc (rRs w.heap.size (some ⟨g1, 0, none⟩) nd c' (rankTo so (k + 1)) :: rRs w.heap.size B' no d' O :: rBlk g 118 #[.map (some m), .bool true, .int .i64 a0] :: rMap 9 m N (rfF F) :: []) := by
                    rw [← HNX.out]
                    exact hS3
                  clear hS3
                  go_wp2_with fail
                  go_roundw
                  case rel => exact ⟨k + 1, by omega, by go_num, hS4⟩
                  case measure => simp [intOf]; omega
                · obtain ⟨hp, hte0⟩ := HB.out.1 rfl
                  obtain ⟨j, rfl⟩ : ∃ j, k = j + 1 := ⟨k - 1, by omega⟩
                  have hte : so[j].2.2 = so[j + 1].2.2 := hte0
                  have hjs : j < so.length := by omega
                  have HO3 : wc.ownsRow w.heap.size 43 3 (.slice (some ⟨g1, 0, none⟩) nd c') nd (((rankTo so (j + 1)).set (j + 1) (((j + 1 : Nat) : Int) + 1, x.2.1, x.2.2)).flatMap resC) := hS3.head
                  obtain ⟨y, hy, cy, _⟩ := HTA.out wc j (by omega) HO3
                  obtain ⟨y2, hy2, cy2, _⟩ := HTA.out wc (j + 1) hlt HO3
                  have f1 := HO3.frozenAt ((j + 1) * 3)
                  have hyr : y.1 = (lessT so so[j + 1].2.2 : Int) + 1 := by
                    rw [List.getElem?_set_ne (by omega), List.getElem?_eq_getElem (by rw [rankTo_len]; exact hjs), rankTo_at so (j + 1) j hjs, if_pos (by omega)] at hy
                    injection hy with hy
                    rw [← hy, hte]
                  have hy2e : ((rankTo so (j + 1)).set (j + 1) (((j + 1 : Nat) : Int) + 1, x.2.1, x.2.2))[j + 1]'(by rw [List.length_set]; exact hkL) = (((j + 1 : Nat) : Int) + 1, x.2.1, x.2.2) := by rw [List.getElem_set_self]
                  have hS4 := Sq.field resC 3 resC_len (rs := (rankTo so (j + 1)).set (j + 1) (((j + 1 : Nat) : Int) + 1, x.2.1, x.2.2)) (by rw [HL1L.out]; exact hS3) (j + 1) 0 (by rw [List.length_set]; exact hkL) (by omega) (.int .i64 y.1) (y.1, x.2.1, x.2.2) (by rw [hy2e]; rfl)
                  have HNX : Hid (((rankTo so (j + 1)).set (j + 1) (((j + 1 : Nat) : Int) + 1, x.2.1, x.2.2)).set (j + 1) (y.1, x.2.1, x.2.2) = rankTo so (j + 1 + 1)) := Lib.hid (by
                    rw [List.set_set, rankTo_step so (j + 1) hks, hyr, HX.out])
                  rw [HNX.out, rankTo_len, HSL.out, Nat.add_zero] at hS4
                  obtain ⟨y1, hy1⟩ : ∃ y1, y.1 = y1 := ⟨_, rfl⟩
                  rw [hy1] at hS4 cy
                  obtain ⟨z1, hz1⟩ : ∃ z1, y2.1 = z1 := ⟨_, rfl⟩
                  rw [hz1] at cy2
                  have hj0 : (0 : Int) ≤ (j : Int) := by omega
                  have hjn : (j : Int) < (nd : Int) := by omega
                  have hw1 : IntKind.i64.wrap ((((j + 1 : Nat)) : Int) - 1) = (j : Int) := (IntWalk.i64_in _ (by omega)).trans (by omega)
                  have hw2 : IntKind.i64.wrap ((j : Int) + 1 - 1) = (j : Int) := (IntWalk.i64_in _ (by omega)).trans (by omega)
                  clear HO3 hy hy2 hyr hy2e hte hte0 hS3 hy1 hz1 HNX HB hp
                  go_wp2_with fail
                  go_roundw
                  case rel => exact ⟨j + 1 + 1, by omega, by go_num, hS4⟩
                  case measure => simp [intOf]; omega
            · obtain rfl : k = nd := by omega
              have hRk : rankTo so k = rankL so := by rw [← HSL.out]; exact rankTo_all so
              have hS7 : Sq w wa (rRs w.heap.size B' no d' (othTo ((k : Int) + 1) O 0) :: rRs w.heap.size A' k c' (rankL so) :: rBlk g 118 #[.map (some m), .bool true, .int .i64 a0] :: rMap 9 m N (rfF F) :: []) := by
                rw [othTo_none, ← hRk]
                exact hS.front 1 rfl rfl
              clear hS hRk
              go_wp2_with fail
              go_loopw [109] (fun i wr => ∃ j : Nat, j ≤ no ∧ i = .int .i64 j ∧ Sq w wr (rRs w.heap.size B' no d' (othTo ((k : Int) + 1) O j) :: rRs w.heap.size A' k c' (rankL so) :: rBlk g 118 #[.map (some m), .bool true, .int .i64 a0] :: rMap 9 m N (rfF F) :: [])) (fun i _ => no - (intOf i).toNat)
              case atStart => exact ⟨0, Nat.zero_le _, rfl, hS7⟩
              case round =>
                clear hS7
                obtain ⟨j, hj, rfl, hS⟩ := hrel
                obtain ⟨wb, hwb⟩ : ∃ z, z = wr := ⟨_, rfl⟩
                subst hwb
                by_cases hltj : j < no
                · have hjO : j < O.length := by rw [HNO.out]; exact hltj
                  have hO1 : wb.ownsRow w.heap.size 43 3 (.slice B' no d') no ((othTo ((k : Int) + 1) O j).flatMap resC) := hS.head
                  obtain ⟨g2, cap2, hv, _⟩ := hO1.form (by omega)
                  injection hv with hA1 _ hc1
                  subst hA1
                  have hjL : j < (othTo ((k : Int) + 1) O j).length := by rw [othTo_len]; exact hjO
                  have hLl : (othTo ((k : Int) + 1) O j).length = no := by rw [othTo_len]; exact HNO.out
                  have hLj := othTo_at ((k : Int) + 1) O j hjO
                  have hS2 := Sq.field resC 3 resC_len (rs := othTo ((k : Int) + 1) O j) (by rw [hLl]; exact hS) j 0 hjL (by omega) (.int .i64 ((k : Int) + 1)) ((k : Int) + 1, O[j].2.1, O[j].2.2) (by rw [hLj]; rfl)
                  rw [← othTo_step, othTo_len, HNO.out, Nat.add_zero] at hS2
                  have y0 := own_cell resC 3 resC_len hO1 j 0 hjL hltj (by omega)
                  replace y0 : wb.cell? ⟨g2, j * 3, none⟩ = some (.int .i64 (othTo ((k : Int) + 1) O j)[j].1) := y0
                  have f0 := hO1.frozenAt (j * 3)
                  obtain ⟨z0, hz0⟩ : ∃ z0, (othTo ((k : Int) + 1) O j)[j].1 = z0 := ⟨_, rfl⟩
                  rw [hz0] at y0
                  have hj0 : (0 : Int) ≤ (j : Int) := by omega
                  have hj1 : (j : Int) < (no : Int) := by omega
                  clear hO1 hc1 hS hz0 hLj
                  go_wp2_with fail
                  go_roundw
                  case rel => exact ⟨j + 1, by omega, by go_num, hS2⟩
                  case measure => simp [intOf]; omega
                · obtain rfl : j = no := by omega
                  have hS8 := hS.front 1 rfl rfl
                  have HO : wb.ownsRow w.heap.size 43 3 (.slice A' k c') k ((rankL so).flatMap resC) := hS8.head
                  have HO2 : wb.ownsRow w.heap.size 43 3 (.slice B' j d') j ((othTo ((k : Int) + 1) O j).flatMap resC) := hS.head
                  have hRd : Rd wb wb.heap.size 3 (.slice B' j d') j ((othTo ((k : Int) + 1) O j).flatMap resC) := Rd.of_own HO2 (fun z hz => by have := (HO2.lt z hz).2; omega)
                  have HFIN := HSU.out
                  rw [HSL.out, HNO.out] at HFIN
                  have HFI := Lib.hid HFIN
                  have HLF : Hid ((rankL so ++ othTo ((k : Int) + 1) O j).length = k + j) := Lib.hid (by rw [List.length_append, rankL_len, othTo_len, HSL.out, HNO.out])
                  have hz9 := hS.size
                  have hbl := hS.below
                  clear hS HO2 HFIN
                  go_wp2_with (first
                    | (at_builtin; refine wpList_app_rd _ rfl _ _ 35 rfl w.heap.size 43 i0 (.agg #[.int .i64 0, .string ⟨#[]⟩, .int .i64 0]) 3 32 Tryz.underlying35 hi hi0 hi1 hi2 rfl (by decide) _ _ _ rfl HO _ _ _ _ _ rfl hRd (by intro u hu; obtain ⟨r, _, hr⟩ := List.mem_flatMap.1 hu; exact resC_one r u hr) (by unfold maxLen; omega) (by omega) (by omega) ?_; intro v' w8 hown' hgrow hblk; have hS9 := hS8.append hown' hgrow hblk; clear hgrow hblk hown'))
                  have hO9 : w8.ownsRow w.heap.size 43 3 v' (k + j) ((rankL so).flatMap resC ++ (othTo ((k : Int) + 1) O j).flatMap resC) := hS9.head
                  have hfin := hS9.below
                  go_ret2
                  refine ⟨_, rankL so ++ othTo ((k : Int) + 1) O j, by rw [HRH.out]; rfl, fun _ => ?_, fun h => absurd HRH.out h, ?_, hfin⟩
                  · rw [HRF.out]
                    show ResR F.ks (dP F) F.at0 _
                    rw [HD.out, HA0.out]
                    exact HFI.out
                  · rw [HLF.out, List.flatMap_append]
                    exact hO9
  · obtain rfl : R = stF l := by rw [← hR]; unfold rsF; rw [if_neg h0]
    obtain ⟨E, hE⟩ : ∃ E, stF l = E := ⟨_, rfl⟩
    rw [hE] at HF h0 HRH
    have hx : (E != 0) = true := by simpa using h0
    have HX0 := Lib.hid h0
    clear hE hr hz h0 hR hnm
    go_enter Tryz.func10, Tryz.ntmps10
    go_wp2_with fail
    refine HF.out.mono ?_
    rintro e w1 ⟨rfl, hb1⟩
    go_wp2_with fail
    go_ret2
    exact ⟨_, [], by rw [HRH.out]; rfl, fun h => absurd (HRH.out.symm.trans h) HX0.out, fun _ => rfl, World.ownsRow_nil _ _ _ _, hb1⟩
end Go.Proofs.YthbcogekfdllmaaGreatDoor
