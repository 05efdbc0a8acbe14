/-
  Whether no choice makes some rules hold as they are wanted: rule.never by a contract.
-/
import Derived.Test.YtfhdknppldobiaaGreatDoorZBinS
import Derived.Test.YtfhdknppldobiaaGreatDoorZDelN
import Derived.Deep.RegionHeld3
import Derived.Deep.DeepCutAuto
namespace Go.Proofs.YtfhdknppldobiaaGreatDoor
open Go Go.RowKit TxtP
attribute [local go_sem ↓] Go.wp_at_zero Go.wp_at_succ

theorem step_app_sl {w0 V : World} {L : List Rsc} {A : Option Addr} {n c : Nat} {ys : List Value} {b : Nat} {A2 : Option Addr} {m c2 : Nat} {news : List Value} {ops : Array Oper} {o : Oper} {a : Act} {K : Act → World → Prop} {Q : Exit → Act → World → Prop} {E : Prop} (hgd : o.guard = none) (s y : Operand) (ho : o.op = .call { callee := .builtin .append, args := #[s, y], argTypes := #[37, 37] })
    (hT : Sq w0 V (rOwn w0.heap.size 9 1 (.slice A n c) n ys :: L)) (hr : Rd V b 1 (.slice A2 m c2) m news) (h1 : ∀ u ∈ news, u.oneCell' = true) (hn : n + m ≤ 200000) (hs : a.eval s = .slice A n c) (hx : a.eval y = .slice A2 m c2)
    (h : ∀ A' c' V', Sq w0 V' (rOwn w0.heap.size 9 1 (.slice A' (n + m) c') (n + m) (ys ++ news) :: L) → K (a.put o.dst (.slice A' (n + m) c')) V') :
    if Region.wanted o (yielded ops a.tmps) = true then Oper.wp Tryz.prog o a V K Q else E := by
  obtain ⟨i0, hi, hz0, hz1, hz2⟩ := info_parts info_str
  have hw : Region.wanted o (yielded ops a.tmps) = true := by simp [Region.wanted, hgd]
  rw [if_pos hw]
  have hown : V.ownsRow w0.heap.size 9 1 (.slice A n c) n ys := hT.head
  refine wp_app_rd V s y 37 ho w0.heap.size 9 i0 (.string ⟨#[]⟩) 1 16 Tryz.underlying37 hi hz0 hz1 hz2 rfl (by decide) _ n _ hs hown b _ m c2 news hx hr h1 (by unfold maxLen; omega) (by omega) hT.size ?_
  intro v' w' h1 h2 h3
  obtain ⟨A', c', rfl⟩ := own_form h1
  exact h A' c' w' (hT.append h1 h2 h3)
/-- rules, and how each is wanted -/
abbrev Nw := Nd × Bool
def nevN (ps : List Nw) : List ByteArray := frL (ps.flatMap fun p => namL p.1)
def asB (ns : List ByteArray) (ps : List Nw) (m : Nat) : Bool := ps.all fun p => holF (fun a => isM ns m (txtA a)) p.1 == p.2
def nevB (ps : List Nw) : Bool := if 12 < (nevN ps).length then false else (List.range (2 ^ (nevN ps).length)).all fun m => !asB (nevN ps) ps m
def nevE (ps : List Nw) : Int := if 12 < (nevN ps).length then 12 else 0
structure NvM (w : World) (b : Nat) (A : Option Addr) (n c : Nat) (A2 : Option Addr) (c2 : Nat) (ps : List Nw) (gs : List Nat) : Prop where
  rg : Rd w b 1 (.slice A n c) n (gs.map ptrV)
  rb : Rd w b 1 (.slice A2 n c2) n (ps.map fun p => .bool p.2)
  hg : gs.length = n
  hp : ps.length = n
  nd : ∀ i (hi : i < gs.length) (hp : i < ps.length), ∃ lo hi, NodeAt w lo hi gs[i] ps[i].1 ∧ hi ≤ w.heap.size
  ok : ∀ p ∈ ps, NdOk numF p.1 ∧ cntN p.1 ≤ 100000 ∧ (namL p.1).length ≤ 2001
  n2 : n ≤ 10
theorem row_cell {α : Type} {w : World} {b n c : Nat} {A : Option Addr} {xs : List α} {f : α → Value} (h : Rd w b 1 (.slice A n c) n (xs.map f)) : c ≤ maxLen ∧ n ≤ c ∧ (0 < n → ∃ g o, A = some ⟨g, o, none⟩ ∧ ∀ i (hi : i < xs.length), w.cell? ⟨g, o + i, none⟩ = some (f xs[i])) := by
  obtain ⟨A', c', e1, e2, e3, e4, e5, e6⟩ := h
  injection e1 with ea eb ec
  subst ea ec
  refine ⟨e3, e2, fun hn => ?_⟩
  obtain ⟨g, o, f1, f2, f3⟩ := e6 hn
  exact ⟨g, o, f1, fun i hi => f3 i _ (by rw [List.getElem?_map, List.getElem?_eq_getElem hi]; rfl)⟩
theorem nm_step (ps : List Nw) (k : Nat) (hk : k < ps.length) : (ps.take (k + 1)).flatMap (fun p => namL p.1) = (ps.take k).flatMap (fun p => namL p.1) ++ namL ps[k].1 := by
  rw [List.take_succ_eq_append_getElem hk, List.flatMap_append]
  simp
theorem nm_le : ∀ ps : List Nw, (∀ p ∈ ps, (namL p.1).length ≤ 2001) → (ps.flatMap fun p => namL p.1).length ≤ ps.length * 2001
  | [], _ => by simp
  | p :: ps, h => by
    have h1 := h p (List.mem_cons_self ..)
    have h2 := nm_le ps (fun x hx => h x (List.mem_cons_of_mem _ hx))
    rw [List.flatMap_cons, List.length_append, List.length_cons, Nat.succ_mul]
    omega
set_option maxRecDepth 100000 in
theorem never1_calls (x : ByteArray) (w : World) : Calls Tryz.prog 145 #[.string x] w (BRet (.bool (isT x)) w) := by
  have h : (x.toList == [116, 114, 117, 101]) = isT x := tokB x [116, 114, 117, 101] sTrue rfl
  obtain ⟨q, hq⟩ : ∃ q, isT x = q := ⟨_, rfl⟩
  rw [hq] at h ⊢
  clear hq
  go_enter Tryz.func145, Tryz.ntmps145
  go_wp2_with fail
  go_ret
  exact ⟨rfl, Below.refl _ _⟩
theorem frL_ris (ls : List BL) : RisS (frL ls) := by
  have h : RisS ((Lib.compact (srtL ls)).map mkS) := ris_of (comp_ok ls).2
  exact h.filter _
set_option maxRecDepth 100000 in
set_option maxHeartbeats 4000000 in
theorem never_calls (b : Nat) (A : Option Addr) (n c : Nat) (A2 : Option Addr) (c2 : Nat) (ps : List Nw) (gs : List Nat) (w : World) (h : NvM w b A n c A2 c2 ps gs) (hb : b < w.heap.size) :
    Calls Tryz.prog 96 #[.slice A n c, .slice A2 n c2] w (BRet (.tuple #[.bool (nevB ps), .int .i64 (nevE ps)]) w) := by
  obtain ⟨hm1, hn1, hcg⟩ := row_cell h.rg
  obtain ⟨hm2, hn2', hcb⟩ := row_cell h.rb
  have hg := h.hg
  have hp := h.hp
  have hn10 := h.n2
  unfold maxLen at hm1 hm2
  have HGC : Hid (0 < n → ∃ g o, A = some ⟨g, o, none⟩ ∧ ∀ i (hi : i < gs.length), w.cell? ⟨g, o + i, none⟩ = some (ptrV gs[i])) := Lib.hid hcg
  have HBC : Hid (0 < n → ∃ g o, A2 = some ⟨g, o, none⟩ ∧ ∀ i (hi : i < ps.length), w.cell? ⟨g, o + i, none⟩ = some (.bool ps[i].2)) := Lib.hid hcb
  have HG := Lib.hid hg
  have HP := Lib.hid hp
  have HNM : Hid (∀ k (hk : k < gs.length) (hk2 : k < ps.length) W, Below w.heap.size w W → Calls Tryz.prog 103 #[ptrV gs[k]] W (fun e w' => ∃ A c, e = .returned (.slice A (namL ps[k].1).length c) ∧ w'.ownsRow W.heap.size 9 1 (.slice A (namL ps[k].1).length c) (namL ps[k].1).length (svB (namL ps[k].1)) ∧ Below W.heap.size W w')) := Lib.hid (fun k hk hk2 W hW => by
    obtain ⟨lo, hi, hN, hhi⟩ := h.nd k hk hk2
    obtain ⟨o1, o2, _⟩ := h.ok _ (List.getElem_mem hk2)
    exact names_calls numF_z o1 o2 gs[k] lo hi W (hN.keep (fun j _ hj => hW.block j (by omega))) (Nat.le_trans hhi hW.size))
  have HHO : Hid (∀ k (hk : k < gs.length) (hk2 : k < ps.length) (ns : List ByteArray) (bb m gn gt : Nat) (A3 : Option Addr) (n3 c3 : Nat) W, Below w.heap.size w W → ChM W bb gn gt ns m A3 n3 c3 → m < 1000000 → n3 ≤ 20 → RisS ns →
      Calls Tryz.prog 79 #[ptrV gs[k], .func (.func 146) #[] #[.pointer (some ⟨gn, 0, none⟩), .pointer (some ⟨gt, 0, none⟩)]] W (BRet (.bool (holF (fun a => isM ns m (txtA a)) ps[k].1)) W)) := Lib.hid (fun k hk hk2 ns bb m gn gt A3 n3 c3 W hW hc h1 h2 h3 => by
    obtain ⟨lo, hi, hN, hhi⟩ := h.nd k hk hk2
    obtain ⟨o1, _, _⟩ := h.ok _ (List.getElem_mem hk2)
    exact holn_calls _ o1 W gn gt gs[k] lo hi W (hN.keep (fun j _ hj => hW.block j (by omega))) (Nat.le_trans hhi hW.size) (fun a V ha hV => nev2_calls bb gn gt ns m A3 n3 c3 a V (hc.below hV) h1 h2 h3 ha) (Below.refl _ _))
  have hpre : ∀ k, ((ps.take k).flatMap fun p => namL p.1).length ≤ 20010 := fun k => by
    have h1 := nm_le (ps.take k) (fun p hp => (h.ok p (List.mem_of_mem_take hp)).2.2)
    rw [List.length_take] at h1
    have : min k ps.length ≤ 10 := by omega
    have h2 := Nat.mul_le_mul_right 2001 this
    omega
  have HPRE := Lib.hid hpre
  have HSO := Lib.hid (fun W rs A n c ls h1 h2 => sortS_calls w W rs A n c ls h1 h2)
  have HCO := Lib.hid (fun W rs A n c ls h1 h2 => compS_calls w W rs A n c ls h1 h2)
  obtain ⟨v1, hv1⟩ : ∃ v, nevB ps = v := ⟨_, rfl⟩
  obtain ⟨v2, hv2⟩ : ∃ v, nevE ps = v := ⟨_, rfl⟩
  have HV1 : Hid (v1 = if 12 < (nevN ps).length then false else (List.range (2 ^ (nevN ps).length)).all fun m => !asB (nevN ps) ps m) := Lib.hid hv1.symm
  have HV2 : Hid (v2 = if 12 < (nevN ps).length then 12 else 0) := Lib.hid hv2.symm
  rw [hv1, hv2]
  have HNE : Hid (nevN ps = kptS isT ((Lib.compact (srtL (ps.flatMap fun p => namL p.1))).map mkS)) := Lib.hid rfl
  have HNR : Hid (RisS (nevN ps)) := Lib.hid (frL_ris _)
  have HB := Lib.hid hb
  have hS0 := ((Sq.start w).nil w.heap.size 9 1).add #[.slice none 0 0] 37
  clear h hb hcg hcb hg hp hpre hv1 hv2
  go_enter Tryz.func96, Tryz.ntmps96
  go_wp2_with fail
  go_loopw [16] (fun i wr => ∃ (k : Nat) (lv : List BL) (A4 : Option Addr) (c4 : Nat), k ≤ n ∧ i = .int .i64 k ∧ Hid (lv = (ps.take k).flatMap fun p => namL p.1) ∧ Sq w wr [rBlk w.heap.size 37 #[.slice A4 lv.length c4], rOwn w.heap.size 9 1 (.slice A4 lv.length c4) lv.length (svB lv)]) (fun i _ => n - (intOf i).toNat)
  case atStart => exact ⟨0, [], none, 0, Nat.zero_le _, rfl, Lib.hid (by simp), hS0⟩
  case round =>
    clear hS0
    obtain ⟨k, lv, A4, c4, hk, rfl, HLV, hS⟩ := hrel
    obtain ⟨m, hm⟩ : ∃ m, lv.length = m := ⟨_, rfl⟩
    have HM := Lib.hid hm
    have hmb : m ≤ 20010 := by rw [← hm, HLV.out]; exact HPRE.out k
    rw [hm] at hS
    clear hm
    by_cases hlt : k < n
    · have hkg : k < gs.length := by rw [HG.out]; exact hlt
      have hkp : k < ps.length := by rw [HP.out]; exact hlt
      obtain ⟨g, o, hA, hcs⟩ := HGC.out (by omega)
      subst hA
      have d0 := below_cell hS.below (hcs k hkg)
      have HC0 := Lib.hid (HNM.out k hkg hkp)
      have HSN := Lib.hid (nm_step ps k hkp)
      have hxb0 := HPRE.out (k + 1)
      rw [HSN.out, List.length_append, ← HLV.out, HM.out] at hxb0
      obtain ⟨x, hx⟩ : ∃ x, namL ps[k].1 = x := ⟨_, rfl⟩
      rw [hx] at HC0 HSN hxb0
      obtain ⟨G, hG⟩ : ∃ z, ptrV gs[k] = z := ⟨_, rfl⟩
      rw [hG] at HC0 d0
      obtain ⟨q, hq⟩ : ∃ q, x.length = q := ⟨_, rfl⟩
      rw [hq] at HC0 hxb0
      have HXL := Lib.hid hq
      have v0 : wr.cell? ⟨w.heap.size, 0, none⟩ = some (.slice A4 m c4) := (hS.nth 0 rfl : Blk wr w.heap.size _ _).cell 0
      have hSd := hS.drew
      have HC := Lib.hid (HC0.out wr.drew hSd.below)
      have hlw : w.heap.size < wr.drew.heap.size := (hSd.nth 0 rfl : Blk wr.drew w.heap.size _ _).lt
      clear hcs hS HC0 hx hG hq
      go_wp2_with fail
      go_region_law (first
        | (go_simp; go_at_call 103; ((with_reducible refine HC.out.mono ?_); rintro e w3 ⟨A7, c7, rfl, ho7, hb3⟩; have hS3 := hSd.callB hb3; have e32 : w3.cell? ⟨w.heap.size, 0, none⟩ = some (.slice A4 m c4) := (hS3.nth 0 rfl : Blk w3 w.heap.size _ _).cell 0; have hrd : Rd w3 w.heap.size 1 (.slice A7 q c7) q (svB x) := Rd.own ho7 hlw; have hT3 := hS3.front 1 rfl rfl; have hz3 := hS3.size))
        | ((with_reducible refine step_app_sl rfl _ _ rfl hT3 hrd (svB_cells _) (by omega) rfl rfl ?_); intro A8 c8 w8 hS8; have cb8 : w8.cell? ⟨w.heap.size, 0, none⟩ = some (.slice A4 m c4) := (hS8.nth 1 rfl : Blk w8 w.heap.size _ _).cell 0; have fb8 : w8.frozen? ⟨w.heap.size, 0, none⟩ = false := (hS8.nth 1 rfl : Blk w8 w.heap.size _ _).frozen 0; have hz8 := hS8.size))
      all_goals
        go_wp2_with fail
        go_roundw
        case rel => exact ⟨k + 1, lv ++ x, A8, c8, hlt, by go_num, by rw [HSN.out, ← HLV.out]; exact Lib.hid rfl, by rw [List.length_append, HM.out, HXL.out, svB_app]; exact (hS8.front 1 rfl rfl).set_ 0 (.slice A8 (m + q) c8)⟩
        case measure => simp [intOf]; omega
    · obtain rfl : k = n := by omega
      have ht : ps.take k = ps := List.take_of_length_le (by rw [HP.out]; exact Nat.le_refl _)
      rw [ht] at HLV
      have v0 : wr.cell? ⟨w.heap.size, 0, none⟩ = some (.slice A4 m c4) := (hS.nth 0 rfl : Blk wr w.heap.size _ _).cell 0
      have HS1 := Lib.hid (HSO.out wr [rBlk w.heap.size 37 #[.slice A4 m c4]] A4 m c4 lv (by omega) (hS.front 1 rfl rfl))
      have HTT : Hid (nevN ps = kptS isT ((Lib.compact (srtL lv)).map mkS)) := Lib.hid (by rw [HNE.out, HLV.out])
      have hcl : (Lib.compact (srtL lv)).length ≤ m := by
        have h1 := compact_le (srtL lv)
        rw [srtL_len, HM.out] at h1
        exact h1
      clear hS ht HNE
      go_wp2_with fail
      refine HS1.out.mono ?_
      rintro e w3 ⟨rfl, hS3⟩
      have v1 : w3.cell? ⟨w.heap.size, 0, none⟩ = some (.slice A4 m c4) := (hS3.nth 1 rfl : Blk w3 w.heap.size _ _).cell 0
      have HS2 := Lib.hid (HCO.out w3 [rBlk w.heap.size 37 #[.slice A4 m c4]] A4 m c4 (srtL lv) (by omega) hS3)
      clear hS3 v0
      go_wp2_with fail
      refine HS2.out.mono ?_
      rintro e w4 ⟨rfl, hS4⟩
      obtain ⟨L, hL⟩ : ∃ L, Lib.compact (srtL lv) = L := ⟨_, rfl⟩
      rw [hL] at hS4 hcl HTT
      rw [svB_mk] at hS4
      have HS3 : Hid (Calls Tryz.prog 90 #[.slice A4 L.length c4, .func (.func 145) #[] #[]] w4 (DelSq w w.heap.size (kptS isT (L.map mkS)) [rBlk w.heap.size 37 #[.slice A4 m c4]])) :=
        Lib.hid (deleteN_calls w w.heap.size isT A4 L.length c4 (L.map mkS) _ w4 hS4 (fun V x _ _ => never1_calls x V) (fun k hk e => (List.pairwise_cons.1 hS4.hp.apart).1 _ (List.mem_cons_self ..) k hk e) (by omega))
      rw [← HTT.out] at HS3
      unfold DelSq at HS3
      obtain ⟨ns, hns⟩ : ∃ ns, nevN ps = ns := ⟨_, rfl⟩
      rw [hns] at HS3 HV1 HV2 HNR
      obtain ⟨nl, hnl⟩ : ∃ nl, ns.length = nl := ⟨_, rfl⟩
      rw [hnl] at HS3 HV1 HV2
      rw [hL]
      clear hS4 hL HTT hns v1
      go_wp2_with fail
      refine HS3.out.mono ?_
      rintro e w5 ⟨A5, m5, c5, rfl, rfl, hr5, hS5⟩
      have b5 : Blk w5 w.heap.size 37 #[.slice A4 m c4] := hS5.head
      have v5 := b5.cell 0
      have f5 := b5.frozen 0
      replace v5 : w5.cell? ⟨w.heap.size, 0, none⟩ = some (.slice A4 m c4) := v5
      have hS6 := hS5.set_ 0 (.slice A5 m5 c5)
      have hr6 := hr5.bx ((Bx.refl w5.heap.size w.heap.size w5).setCell (p := ⟨w.heap.size, 0, none⟩) (.inl rfl) (.slice A5 m5 c5))
      have HS6 := Lib.hid hS6
      have HR6 := Lib.hid hr6
      clear b5 hr5 hS5 hS6 hr6 HS1 HS2 HS3 HNM HPRE HSO HCO HLV HM hcl hmb
      go_upto_region 9 with (fail)
      obtain ⟨w6, hw6⟩ : ∃ w6, w5.setCell ⟨w.heap.size, 0, none⟩ (.slice A5 m5 c5) = w6 := ⟨_, rfl⟩
      rw [hw6] at HS6 HR6 ⊢
      clear hw6 v5 f5
      have v6 : w6.cell? ⟨w.heap.size, 0, none⟩ = some (.slice A5 m5 c5) := (HS6.out.head : Blk w6 w.heap.size _ _).cell 0
      have HV6 := Lib.hid v6
      have HB6 := Lib.hid HS6.out.below
      by_cases h12 : 12 < m5
      · have HR1 : Hid (v1 = false) := Lib.hid (by rw [HV1.out, if_pos h12])
        have HR2 : Hid (v2 = 12) := Lib.hid (by rw [HV2.out, if_pos h12])
        clear HV1 HV2
        go_wp2_with fail
        go_ret2
        exact ⟨by rw [HR1.out, HR2.out]; rfl, HB6.out⟩
      · have HR2 : Hid (v2 = 0) := Lib.hid (by rw [HV2.out, if_neg h12])
        rw [if_neg h12] at HV1
        obtain ⟨N, hN⟩ : ∃ N, 2 ^ m5 = N := ⟨_, rfl⟩
        have hN1 : N ≤ 4096 := by rw [← hN]; exact Nat.pow_le_pow_right (n := 2) (by decide) (show m5 ≤ 12 by omega)
        have hNw : IntKind.i64.wrap ((2 : Int) ^ m5) = (N : Int) := by
          have : ((2 : Int) ^ m5) = (N : Int) := by rw [← hN]; simp
          rw [this]
          exact IntWalk.i64_in _ (by omega)
        rw [hN] at HV1
        have HVF : Hid (∀ k, k < N → asB ns ps k = true → v1 = false) := Lib.hid (fun k hk h => by
          rw [HV1.out, List.all_eq_false]
          exact ⟨k, List.mem_range.2 hk, by rw [h]; decide⟩)
        have HVT : Hid ((∀ k, k < N → asB ns ps k = false) → v1 = true) := Lib.hid (fun h => by
          rw [HV1.out, List.all_eq_true]
          exact fun k hk => by rw [h k (List.mem_range.1 hk)]; rfl)
        have hm20 : m5 ≤ 20 := by omega
        clear hN HV1 HV2
        go_wp2_with fail
        go_loopw [36] (fun i wr => ∃ k2 : Nat, k2 ≤ N ∧ i = .int .i64 k2 ∧ Below w6.heap.size w6 wr ∧ Hid (∀ j, j < k2 → asB ns ps j = false)) (fun i _ => N - (intOf i).toNat)
        case atStart => exact ⟨0, Nat.zero_le _, rfl, Below.refl _ _, Lib.hid (fun j h => by omega)⟩
        case round =>
          clear v6
          obtain ⟨k2, hk2, rfl, hbr, HF⟩ := hrel
          by_cases hlt2 : k2 < N
          · have hSn := (Sq.start wr).add #[.int .i64 k2] 3
            obtain ⟨w7, hw7⟩ : ∃ w7, w7 = wr.alloc (.cells #[.int .i64 k2] 3) := ⟨_, rfl⟩
            rw [← hw7] at hSn
            have hB7 := below_call hbr hSn.below (Nat.le_refl _)
            have HCH : Hid (∀ V, Below w7.heap.size w7 V → ChM V w.heap.size w.heap.size wr.heap.size ns k2 A5 m5 c5) := Lib.hid (fun V hV => ⟨below_cell (below_call hB7 hV (Nat.le_refl _)) HV6.out, below_cell hV (Blk.cell hSn.head 0), (HR6.out.below hB7).below hV⟩)
            have HB7 : Hid (Below w.heap.size w w7) := Lib.hid (below_call HB6.out hB7 (Nat.le_refl _))
            have HBR7 := Lib.hid hB7
            obtain ⟨GT, hGT⟩ : ∃ z, wr.heap.size = z := ⟨_, rfl⟩
            rw [hGT] at HCH
            clear hSn hbr hB7
            go_upto_region 14 with (fail)
            rw [← hw7]
            clear hw7 hGT
            go_wp2_with fail
            go_loopw [11, 42] (fun s11 i wr => ∃ (j : Nat) (q : Bool), j ≤ k ∧ i = .int .i64 j ∧ s11 = .bool q ∧ Hid (q = (ps.take j).all fun p => holF (fun a => isM ns k2 (txtA a)) p.1 == p.2) ∧ Below w7.heap.size w7 wr) (fun _ i _ => k - (intOf i).toNat)
            case atStart => exact ⟨0, true, Nat.zero_le _, rfl, rfl, Lib.hid (by simp), Below.refl _ _⟩
            case round =>
              obtain ⟨j, q, hj, rfl, rfl, HQ, hbr3⟩ := hrel
              by_cases hltj : j < k
              · have hjg : j < gs.length := by rw [HG.out]; exact hltj
                have hjp : j < ps.length := by rw [HP.out]; exact hltj
                obtain ⟨g1, o1, hA1, hcs1⟩ := HGC.out (by omega)
                obtain ⟨g2, o2, hA2, hcs2⟩ := HBC.out (by omega)
                subst hA1 hA2
                have hbw := below_call HB7.out hbr3 (Nat.le_refl _)
                have d0 := below_cell hbw (hcs1 j hjg)
                have hSB : Hid (∀ V, Below wr.heap.size wr V → V.cell? ⟨g2, o2 + j, none⟩ = some (.bool ps[j].2)) := Lib.hid (fun V hV => below_cell hV (below_cell hbw (hcs2 j hjp)))
                have HQN : Hid (((ps.take (j + 1)).all fun p => holF (fun a => isM ns k2 (txtA a)) p.1 == p.2) = (q && (holF (fun a => isM ns k2 (txtA a)) ps[j].1 == ps[j].2))) := Lib.hid (by
                  rw [List.take_succ_eq_append_getElem hjp, List.all_append, HQ.out]
                  simp)
                have T0 : Below wr.heap.size wr wr := Below.refl _ _
                have T1 : Below wr.heap.size wr wr.drew := below_drewN T0 1
                have HH : Hid (∀ V, Below wr.heap.size wr V → Calls Tryz.prog 79 #[ptrV gs[j], .func (.func 146) #[] #[.pointer (some ⟨w.heap.size, 0, none⟩), .pointer (some ⟨GT, 0, none⟩)]] V (fun e w' => e = .returned (.bool (holF (fun a => isM ns k2 (txtA a)) ps[j].1)) ∧ Below wr.heap.size wr w')) :=
                  Lib.hid (fun V hV => (HHO.out j hjg hjp ns w.heap.size k2 w.heap.size GT A5 m5 c5 V (below_call hbw hV (Nat.le_refl _)) (HCH.out V (below_call hbr3 hV (Nat.le_refl _))) (by omega) hm20 HNR.out).mono (fun e w' h2 => ⟨h2.1, below_call hV h2.2 (Nat.le_refl _)⟩))
                obtain ⟨G, hG⟩ : ∃ z, ptrV gs[j] = z := ⟨_, rfl⟩
                rw [hG] at HH d0
                obtain ⟨hv, hhv⟩ : ∃ z, holF (fun a => isM ns k2 (txtA a)) ps[j].1 = z := ⟨_, rfl⟩
                rw [hhv] at HH HQN
                obtain ⟨bw, hbw2⟩ : ∃ z, ps[j].2 = z := ⟨_, rfl⟩
                rw [hbw2] at hSB HQN
                have d1 := hSB.out _ T0
                have HBW3 := Lib.hid hbr3
                have hj0 : (0 : Int) ≤ (j : Int) := by omega
                have hjk : (j : Int) < (k : Int) := by omega
                clear hcs1 hcs2 hG hhv hbw2 hbw hbr3
                cases q
                · have HQ2 : Hid (false = (ps.take (j + 1)).all fun p => holF (fun a => isM ns k2 (txtA a)) p.1 == p.2) := Lib.hid (by rw [HQN.out]; rfl)
                  clear HQN HH
                  go_wp2_with fail
                  go_quiet (fail)
                  all_goals
                    go_wp2_with fail
                    go_roundw
                    case rel => exact ⟨j + 1, false, by omega, by go_num, rfl, HQ2, below_drewN HBW3.out _⟩
                    case measure => simp [intOf]; omega
                · have HQ2 : Hid ((hv == bw) = (ps.take (j + 1)).all fun p => holF (fun a => isM ns k2 (txtA a)) p.1 == p.2) := Lib.hid (by rw [HQN.out]; rfl)
                  clear HQN
                  go_wp2_with fail
                  go_region_held3 (fun V => V.cell? ⟨g2, o2 + j, none⟩ = some (.bool bw))
                    (first | with_reducible exact hSB.out _ T1 | with_reducible exact hSB.out _ T2)
                    (first | (go_at_call 79; ((with_reducible refine (HH.out _ T1).mono ?_); rintro e w9 ⟨rfl, T2⟩)))
                  go_wp2_with fail
                  go_roundw
                  case rel => exact ⟨j + 1, _, by omega, by go_num, rfl, HQ2, below_call HBW3.out T2 (Nat.le_refl _)⟩
                  case measure => simp [intOf]; omega
              · obtain rfl : j = k := by omega
                have ht : ps.take j = ps := List.take_of_length_le (by rw [HP.out]; exact Nat.le_refl _)
                rw [ht] at HQ
                have HQ3 : Hid (asB ns ps k2 = q) := Lib.hid HQ.out.symm
                have hfin := below_call HB7.out hbr3 (Nat.le_refl _)
                have hb6 := below_call HBR7.out hbr3 (Nat.le_refl _)
                clear ht HQ
                cases q
                · have HF2 : Hid (∀ i, i < k2 + 1 → asB ns ps i = false) := Lib.hid (fun i hi => by
                    by_cases he : i = k2
                    · subst he; exact HQ3.out
                    · exact HF.out i (by omega))
                  go_wp2_with fail
                  go_roundw
                  case rel => exact ⟨k2 + 1, by omega, by go_num, hb6, HF2⟩
                  case measure => simp [intOf]; omega
                · have HR := Lib.hid (HVF.out k2 hlt2 HQ3.out)
                  go_wp2_with fail
                  go_ret2
                  exact ⟨by rw [HR.out, HR2.out]; rfl, hfin⟩
          · obtain rfl : k2 = N := by omega
            have HR := Lib.hid (HVT.out (fun j hj => HF.out j hj))
            have hfin := below_call HB6.out hbr (Nat.le_refl _)
            go_wp2_with fail
            go_ret2
            exact ⟨by rw [HR.out, HR2.out]; rfl, hfin⟩
end Go.Proofs.YtfhdknppldobiaaGreatDoor
