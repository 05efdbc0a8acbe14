/-
  splitref2.BeatenOf by its contract.
-/
import Derived.Test.YtebaaoacmmhppaaGreatZBt10
import Derived.Test.YtebaaoacmmhppaaGreatZBtQ
import Derived.Test.YtebaaoacmmhppaaGreatZOrD
namespace Go.Proofs.YtebaaoacmmhppaaGreat
open Go Go.RowKit Go.Sort
attribute [local go_sem ↓] Go.wp_at_zero Go.wp_at_succ

/-- bounds of a date -/
def DtB (x : Bev) : Prop := 0 ≤ x.date ∧ x.date ≤ 345686399999
theorem grw_one (w : World) (o1 o2 : Obj) : ∃ q os', (w.alloc o1).alloc o2 = grow (w.drewN q) os' :=
  ⟨0, #[o1, o2], by rw [alloc_eq_grow, alloc_eq_grow, grow_grow]; rfl⟩
set_option maxRecDepth 100000 in
set_option maxHeartbeats 4000000 in
theorem byDateQ_calls (x y : Bev) (hx : DtB x) (hy : DtB y) (w : World) : Calls Tryz.prog 64 #[.agg (bevC x).toArray, .agg (bevC y).toArray] w (GrwT (.int .i64 (cmpD x y)) w) := by
  obtain ⟨x0, x1⟩ := hx
  obtain ⟨y0, y1⟩ := hy
  have HE : cmpD x y = if cmpI x.date y.date = 0 then cmpS x.id y.id else cmpI x.date y.date := rfl
  have HZ := cmpI_sub x.date y.date
  have HQ : cmpI x.date y.date = 0 ↔ x.date = y.date := cmpI_eqX
  obtain ⟨a1, k1, i1, w1, b1, c1, t1, d1⟩ := x
  obtain ⟨a2, k2, i2, w2, b2, c2, t2, d2⟩ := y
  simp only at HE HZ HQ x0 x1 y0 y1
  show Calls Tryz.prog 64 #[.agg #[.int .i64 a1, .int .i64 k1, .string i1, .string w1, .string b1, .string c1, .int .i64 t1, .int .i64 d1], .agg #[.int .i64 a2, .int .i64 k2, .string i2, .string w2, .string b2, .string c2, .int .i64 t2, .int .i64 d2]] w _
  have HS := Lib.hid (fun W => signI_calls (d1 - d2) W)
  rw [HZ] at HS
  have HC := Lib.hid (fun W => strCmp_calls i1 i2 W)
  have HG := Lib.hid (grw_one w (.cells #[.int .i64 a1, .int .i64 k1, .string i1, .string w1, .string b1, .string c1, .int .i64 t1, .int .i64 d1] 62) (.cells #[.int .i64 a2, .int .i64 k2, .string i2, .string w2, .string b2, .string c2, .int .i64 t2, .int .i64 d2] 62))
  have hw : IntKind.i64.wrap (d1 - d2) = d1 - d2 := IntWalk.i64_in _ (by omega)
  by_cases hd : d1 = d2
  · rw [if_pos (HQ.2 hd)] at HE
    rw [HE]
    subst hd
    clear HE HZ HQ HS hw x0 x1 y0 y1
    go_enter Tryz.func64, Tryz.ntmps64
    go_wp2_with fail
    refine (HC.out _).mono ?_
    rintro e w3 ⟨rfl, rfl⟩
    go_wp2_with fail
    go_ret
    exact ⟨rfl, HG.out⟩
  · rw [if_neg (fun h => hd (HQ.1 h))] at HE
    rw [HE]
    have hne : (d1 != d2) = true := by rw [bne_iff_ne]; exact hd
    clear HE HZ HQ HC hd
    go_enter Tryz.func64, Tryz.ntmps64
    go_wp2_with fail
    refine (HS.out _).mono ?_
    rintro e w3 ⟨rfl, rfl⟩
    go_wp2_with fail
    go_ret
    exact ⟨rfl, HG.out⟩
instance instBevD : Inhabited {x : Bev // DtB x} := ⟨⟨zBev, by unfold DtB; exact ⟨by decide, by decide⟩⟩⟩
theorem sortBtnQ_calls (w0 w : World) (g n c : Nat) (xs : List Bev) (l : List Rsc) (hx : ∀ x ∈ xs, DtB x) (hn : n ≤ 100000) (hS : Sq w0 w (rOwn w0.heap.size 62 8 (.slice (some ⟨g, 0, none⟩) n c) n (xs.flatMap bevC) :: l)) :
    Calls Tryz.prog 63 #[.slice (some ⟨g, 0, none⟩) n c, .func (.func 64) #[] #[]] w (SrtT w0 62 8 bevC g n c xs cmpD l) :=
  srtT_calls (P := DtB) (k := 8) Tryz.sortEvF bevC_len (by decide) bevC_oneT Tryz.isAgg62 Tryz.sizeOf62 cmpD ord3_cmpD 64 #[] (enters_of Tryz.func64 (by kernel_rfl) rfl) w0 w g n c xs l hx hn
    (fun x y W hx hy _ => byDateQ_calls x y hx hy W) hS
theorem sortBtnQ_none (w : World) (A : Option Addr) (c : Nat) :
    Calls Tryz.prog 63 #[.slice A 0 c, .func (.func 64) #[] #[]] w fun e w' => e = .returned (.tuple #[]) ∧ w' = w :=
  AnyF.slices_SortFunc_none Tryz.sortEvF A c _ w
theorem plcV_form (o : Option Brw) : ∃ r t d wh, plcV o = .agg #[.int .i64 r, .int .i64 t, .string (match o with | some x => x.id | none => noBev), .string wh, .int .i64 d] := by
  cases o with
  | none => exact ⟨0, 0, 0, ⟨#[]⟩, rfl⟩
  | some x => exact ⟨_, _, _, _, rfl⟩
theorem btn_step (zs : List Bev) (k : Nat) (hk : k < zs.length) (who best : ByteArray) : (zs.take (k + 1)).filter (btnQ who best) = (zs.take k).filter (btnQ who best) ++ (if ((zs[k].who.toList == who.toList) && !(zs[k].id.toList == best.toList)) = true then [zs[k]] else []) := by
  rw [List.take_succ_eq_append_getElem hk, List.filter_append]
  congr 1
  have e : ((zs[k].who.toList == who.toList) && !(zs[k].id.toList == best.toList)) = btnQ who best zs[k] := by
    unfold btnQ
    rw [show (zs[k].who.toList == who.toList) = whoB who zs[k] from eqS_decB _ _]
  rw [e]
  by_cases h : btnQ who best zs[k] = true
  · rw [if_pos h, List.filter_cons_of_pos h, List.filter_nil]
  · rw [if_neg h, List.filter_cons_of_neg h, List.filter_nil]
/-- what BeatenOf answers -/
def BtoR (l : List Bev) (cat who : ByteArray) (u : Int) (w : World) (e : Ending) (w' : World) : Prop :=
  ∃ (A : Option Addr) (c : Nat) (ys zs : List Bev), SbdR (folE l u).1 cat ys ∧ zs.Perm ys ∧ zs.Pairwise (fun a b => 0 ≤ cmpD b a) ∧ e = .returned (.slice A (zs.filter (btnQ who (plcI (rowsB ys) who))).length c) ∧
    Sq w w' [rOwn w.heap.size 9 1 (.slice A (zs.filter (btnQ who (plcI (rowsB ys) who))).length c) (zs.filter (btnQ who (plcI (rowsB ys) who))).length (strsV ((zs.filter (btnQ who (plcI (rowsB ys) who))).map (·.id)))]
set_option maxRecDepth 100000 in
set_option maxHeartbeats 8000000 in
theorem beatenOf_calls (b : Nat) (A : Option Addr) (n c : Nat) (l : List Bev) (u : Int) (cat who : ByteArray) (w : World) (hb : b < w.heap.size) (hr : Rd w b 8 (.slice A n c) n (l.flatMap bevC)) (hf : ∀ x ∈ l, bevF x = 0) (hn : n ≤ 3000) :
    Calls Tryz.prog 21 #[.slice A n c, .string cat, .string who, .int .i64 u] w (BtoR l cat who u w) := by
  obtain ⟨j0, hj, hy0, hy1, hy2⟩ := info_parts info_str
  have hk : ∀ x ∈ l, EvK x := fun x hx => evK_one (hf x hx)
  obtain ⟨hl, _, _, _⟩ := hr.cells bevC_len (by omega)
  have HL : Hid (l.length ≤ 3000) := Lib.hid (by omega)
  have HKD : Hid (KD (folE l u).1) := Lib.hid (by
    have h := KD.fol l u hk l.length (Nat.le_refl _)
    rwa [List.take_length] at h)
  have HPC := Lib.hid (placeOn_calls b A n c l u cat who w hb hr hk hn)
  have HR := Lib.hid hr
  have HK := Lib.hid hk
  have HDT : Hid (∀ x ∈ brd (folE l u).1 cat, DtB x) := Lib.hid (fun x hx => by
    obtain ⟨r, hr, rfl⟩ := brd_mem hx
    have h := fol_bd hf u r hr
    exact ⟨h.d0, by have := h.d1; have := h.a1; omega⟩)
  clear hl hr hk hf
  go_enter Tryz.func21, Tryz.ntmps21
  go_wp2_with fail
  refine HPC.out.mono ?_
  rintro e w1 ⟨y1, hY1, rfl, hb1⟩
  have HY1 := Lib.hid hY1
  obtain ⟨pr, pt, pd, pw, hpv⟩ := plcV_form (plcB (rowsB y1) who)
  obtain ⟨best, hbest⟩ : ∃ best, plcI (rowsB y1) who = best := ⟨_, rfl⟩
  have hbe : (match plcB (rowsB y1) who with | some x => x.id | none => noBev) = best := by
    rw [← hbest]
    unfold plcI
    cases plcB (rowsB y1) who <;> rfl
  rw [hbe] at hpv
  rw [hpv]
  have HB := Lib.hid hbest
  obtain ⟨PB, hPB⟩ : ∃ z, (plcB (rowsB y1) who).isSome = z := ⟨_, rfl⟩
  rw [hPB]
  obtain ⟨gB, hgB⟩ : ∃ z, z = w1.heap.size := ⟨_, rfl⟩
  obtain ⟨W2, hW2, hS2⟩ : ∃ W, W = w1.alloc (.cells #[.int .i64 pr, .int .i64 pt, .string best, .string pw, .int .i64 pd] 37) ∧ Sq w W [rBlk gB 37 #[.int .i64 pr, .int .i64 pt, .string best, .string pw, .int .i64 pd]] := ⟨_, rfl, by
    rw [hgB]
    exact ((Sq.start w).callB hb1).add #[.int .i64 pr, .int .i64 pt, .string best, .string pw, .int .i64 pd] 37⟩
  have HOB := Lib.hid (onBoardR_calls b A n c l u cat W2 (hS2.rd HR.out) HK.out hn)
  have HS2 := Lib.hid hS2
  clear hbest hbe hpv hPB hY1 hb1 HPC hS2 HR HK
  go_wp2_with fail
  rw [← hgB, ← hW2]
  clear hgB hW2
  refine HOB.out.mono ?_
  rintro e w3 ⟨A3, c3, ys, rfl, hY, hS3⟩
  have HY := Lib.hid hY
  have HYY : Hid (y1 = ys) := Lib.hid (sbd_one HKD.out HY1.out hY)
  have hS4 := (HS2.out.merge hS3).rebase HS2.out.size
  have hdt : ∀ x ∈ ys, DtB x := fun x hx => HDT.out x (hY.1.mem_iff.1 hx)
  have HMZ : Hid (ys.length ≤ 3000) := Lib.hid (by have h1 := HL.out; have h2 := sbd_len hY; omega)
  clear hY hS3 HOB HS2
  by_cases hm0 : ys.length = 0
  · have hnil : ys = [] := List.length_eq_zero_iff.1 hm0
    subst hnil
    have HN := Lib.hid (sortBtnQ_none w3 A3 c3)
    have HF : Hid (∀ W : World, Sq w W [] → BtoR l cat who u w (.returned (.slice none 0 0)) W) := Lib.hid (fun W hW => ⟨none, 0, [], [], HY.out, List.Perm.refl _, List.Pairwise.nil, rfl, hW.nil _ _ _⟩)
    have HSB := Lib.hid hS4.bare
    clear hS4 hdt hm0
    go_wp2_with fail
    refine HN.out.mono ?_
    rintro e w5 ⟨rfl, rfl⟩
    go_wp2_with fail
    go_loopw [12, 31] (fun s14 s57 wr => s57 = .int .i64 0 ∧ s14 = .slice none 0 0 ∧ Sq w wr []) (fun _ s57 _ => 1 - (intOf s57).toNat)
    case atStart => exact ⟨rfl, rfl, HSB.out⟩
    case round =>
      obtain ⟨rfl, rfl, hS6⟩ := hrel
      have HS6 := Lib.hid (HF.out _ hS6)
      clear hS6
      go_wp2_with fail
      go_ret
      exact HS6.out
  · obtain ⟨g, hg⟩ := own_ptr (hS4.head : World.ownsRow _ _ _ _ _ _ _) (by omega)
    subst hg
    have HC := Lib.hid (sortBtnQ_calls w w3 g ys.length c3 ys _ hdt (by have := HMZ.out; omega) hS4)
    obtain ⟨m, hm⟩ : ∃ m, ys.length = m := ⟨_, rfl⟩
    rw [hm] at HC ⊢
    have HM := Lib.hid hm
    have hmz := HMZ.out
    rw [hm] at hmz
    clear hS4 hdt hm hm0 HMZ
    go_wp2_with fail
    refine HC.out.mono ?_
    rintro e w5 ⟨rfl, zs, hp, hso, hT⟩
    have HP := Lib.hid hp
    have HSO := Lib.hid hso
    have HZM : Hid (zs.length = m) := Lib.hid (hp.length_eq.trans HM.out)
    have hT2 := hT.nil w.heap.size 9 1
    clear hp hso hT HC
    go_wp2_with fail
    go_loopw [12, 31] (fun s12 s31 wr => ∃ (k : Nat) (A : Option Addr) (c : Nat) (qs : List Bev), k ≤ m ∧ s31 = .int .i64 k ∧ qs.length ≤ k ∧ s12 = .slice A qs.length c ∧ Hid ((zs.take k).filter (btnQ who best) = qs) ∧ Sq w wr (rOwn w.heap.size 9 1 (.slice A qs.length c) qs.length (strsV (qs.map (·.id))) :: rOwn w.heap.size 62 8 (.slice (some ⟨g, 0, none⟩) m c3) m (zs.flatMap bevC) :: [rBlk gB 37 #[.int .i64 pr, .int .i64 pt, .string best, .string pw, .int .i64 pd]])) (fun _ s31 _ => m - (intOf s31).toNat)
    case atStart => exact ⟨0, none, 0, [], Nat.zero_le _, rfl, Nat.le_refl _, rfl, Lib.hid rfl, hT2⟩
    case round =>
      clear hT2
      obtain ⟨k, A4, c4, qs, hk, rfl, hqk, rfl, HQ, hS⟩ := hrel
      obtain ⟨wo, hwo⟩ : ∃ z, z = wr := ⟨_, rfl⟩
      subst hwo
      by_cases hlt : k < m
      · have hkp : k < zs.length := by rw [HZM.out]; exact hlt
        obtain ⟨a0, a1, a2, a3, a4, a5, a6, a7⟩ := ev_cells (hS.nth 1 rfl : World.ownsRow _ _ _ _ _ _ _) k hkp hlt
        have HST := Lib.hid (btn_step zs k hkp who best)
        obtain ⟨⟨at_, kd, id, whx, by1, ct, tm, dt⟩, hx⟩ : ∃ x, zs[k] = x := ⟨_, rfl⟩
        rw [hx] at a0 a1 a2 a3 a4 a5 a6 a7 HST
        rw [HQ.out] at HST
        simp only at a0 a1 a2 a3 a4 a5 a6 a7 HST
        have hSA := hS.add #[.int .i64 at_, .int .i64 kd, .string id, .string whx, .string by1, .string ct, .int .i64 tm, .int .i64 dt] 62
        have bB := (hSA.nth 3 rfl : Blk _ gB _ _).cell 2
        have hne : gB ≠ wo.heap.size := by have := (hS.nth 2 rfl : Blk _ gB _ _).lt; omega
        have hS5 := hSA.drop 0 rfl rfl
        have hk0 : (0 : Int) ≤ (k : Int) := by omega
        have hk1 : (k : Int) < (m : Int) := by omega
        obtain ⟨B, hB⟩ : ∃ B, (whx.toList == who.toList) = B := ⟨_, rfl⟩
        obtain ⟨C, hC⟩ : ∃ C, (id.toList == best.toList) = C := ⟨_, rfl⟩
        rw [hB, hC] at HST
        have HSA := Lib.hid hSA
        clear hx hkp hS hSA
        cases B
        · rw [if_neg (by simp), List.append_nil] at HST
          go_wp2_with fail
          go_roundw
          case rel => exact ⟨k + 1, A4, c4, qs, by omega, by go_num, by omega, rfl, HST, hS5⟩
          case measure => simp [intOf]; omega
        · cases C
          · rw [if_pos (by decide)] at HST
            obtain ⟨WA, hWA⟩ : ∃ W, W = wo.alloc (.cells #[.int .i64 at_, .int .i64 kd, .string id, .string whx, .string by1, .string ct, .int .i64 tm, .int .i64 dt] 62) := ⟨_, rfl⟩
            go_upto_region 9 with (fail)
            rw [← hWA]
            rw [← hWA] at HSA
            obtain ⟨gE, hgE⟩ : ∃ z, z = wo.heap.size := ⟨_, rfl⟩
            rw [← hgE] at HSA ⊢
            have hSA := HSA.out
            have e2 := (hSA.nth 0 rfl : Blk _ gE _ _).cell 2
            have hS6 := hSA.drop 0 rfl rfl
            have HO5 : WA.ownsRow w.heap.size 9 1 (.slice A4 qs.length c4) qs.length (strsV (qs.map (·.id))) := hS6.head
            have hsz := hS6.size
            clear hWA hgE a0 a1 a2 a3 a4 a5 a6 a7 bB hne hS5 hSA
            go_wp2_with (first
              | (at_builtin; refine wpList_append_own_at _ rfl _ _ 40 rfl w.heap.size 9 j0 (.string ⟨#[]⟩) 1 16 Tryz.underlying40 hj hy0 hy1 hy2 rfl (by decide) _ _ _ rfl (HO5.alloc _) ⟨WA.heap.size, 0, none⟩ 1 1 [.string id] rfl rfl (World.news_of_block (heap_alloc_new _ _)) (by intro u hu; simp only [List.mem_cons, List.not_mem_nil, or_false] at hu; rcases hu with rfl; rfl) (by unfold maxLen; omega) (by omega) (by simp; omega) ?_; intro v' w11 hown' hgrow _ hblk; have hS9 := (hS6.alloc _).append hown' hgrow hblk; obtain ⟨A8, c8, hv8⟩ := own_form hown'; subst hv8; clear hown' hgrow hblk))
            go_roundw
            case rel => exact ⟨k + 1, A8, c8, qs ++ [⟨at_, kd, id, whx, by1, ct, tm, dt⟩], by omega, by go_num, by rw [List.length_append]; simp; omega, by rw [List.length_append]; rfl, HST, by rw [List.map_append, List.length_append]; exact (strsV_snoc _ _) ▸ hS9⟩
            case measure => simp [intOf]; omega
          · rw [if_neg (by simp), List.append_nil] at HST
            go_wp2_with fail
            go_roundw
            case rel => exact ⟨k + 1, A4, c4, qs, by omega, by go_num, by omega, rfl, HST, hS5⟩
            case measure => simp [intOf]; omega
      · obtain rfl : k = m := by omega
        have HF : Hid (BtoR l cat who u w (.returned (.slice A4 qs.length c4)) wo) := Lib.hid (by
          have h := HQ.out
          rw [List.take_of_length_le (by rw [HZM.out]; exact Nat.le_refl _)] at h
          have hb2 : plcI (rowsB ys) who = best := by rw [← HYY.out]; exact HB.out
          refine ⟨A4, c4, ys, zs, HY.out, HP.out, HSO.out, by rw [hb2, h], ?_⟩
          rw [hb2, h]
          exact (hS.drop 2 rfl rfl).drop 1 rfl rfl)
        obtain ⟨N, hN⟩ : ∃ N, qs.length = N := ⟨_, rfl⟩
        rw [hN] at HF ⊢
        clear hS hN hqk
        go_wp2_with fail
        go_ret
        exact HF.out
end Go.Proofs.YtebaaoacmmhppaaGreat
