/-
  BracketsEnd: the law's own walk.
-/
import Derived.Test.YtejadhehmcifoaaGreatDoorZStream
import Derived.Test.YtejadhehmcifoaaGreatDoorZBreP
import Derived.Test.YtejadhehmcifoaaGreatDoorZAdv2
import Derived.Test.YtejadhehmcifoaaGreatDoorZEqGm
import Derived.Test.YtejadhehmcifoaaGreatDoorZReady
import Derived.Deep.DeepCutAuto
namespace Go.Proofs.YtejadhehmcifoaaGreatDoor
open Go Go.RowKit

theorem info_strC : (Tryz.prog.info? 9).map (fun i => (i.zero, i.size, i.bytes)) = some (some (.string ⟨#[]⟩), 1, 16) := by kernel_rfl
theorem one1C {x : Value} (hx : x.oneCell' = true) : ∀ u ∈ [x], u.oneCell' = true := by
  intro u hu
  simp at hu
  subst hu
  exact hx
theorem pStrE_size (r : Int) : (pStrE r).size ≤ 1000 := by
  have h := Go.encode_size_le r
  unfold pStrE
  rw [ByteArray.size_append]
  have : (⟨#[112]⟩ : ByteArray).size = 1 := rfl
  omega
theorem run_add_pE {P : Program} {w : World} (r : Int) : (Op.stringOp .add ⟨#[112]⟩ (Utf8.encode r)).run P w = .ok (.string (pStrE r)) w := by
  refine run_string_add_sum _ _ _ ?_
  have h := Go.encode_size_le r
  have : (⟨#[112]⟩ : ByteArray).size = 1 := rfl
  omega
attribute [local go_sem ↓ high] run_add_pE
attribute [local go_sem ↓ high] Lib.run_min_strs Lib.run_max_strs
theorem eql_gm (a b : ByteArray) (w : World) : (binOp .eql 32 (.agg #[.string a, .string b]) (.agg #[.string a, .string b])).run Tryz.prog w = .ok (.bool true) w := by
  have h : Tryz.prog.underlying 32 = some (.array 2 9) := Tryz.underlying32
  obtain ⟨i0, hi, _, _, _⟩ := info_parts info_strC
  have e := run_equalIn_array (P := Tryz.prog) w 9999 (t := 32) (e := 9) (n := 2) (i := i0) #[.string a, .string b] #[.string a, .string b] h hi
  have hc : Tryz.prog.cellsOf 9 = 1 := by kernel_rfl
  simp [go_sem]
  rw [e, hc]
  simp [Op.eqItems, List.range_succ, go_sem]
attribute [local go_sem ↓ high] eql_gm
theorem nmK_succ (k : Nat) : nmK (k + 1) = nmK k ++ [pStrE (97 + (k : Int))] := by simp [nmK, List.range_succ]
theorem nmK_len (k : Nat) : (nmK k).length = k := by simp [nmK]
theorem nmK_size (k : Nat) : ∀ s ∈ nmK k, s.size ≤ 1000 := by
  intro s hs
  obtain ⟨i, _, rfl⟩ := List.mem_map.1 hs
  exact pStrE_size _
theorem minS_size {x y : ByteArray} (hx : x.size ≤ 1000) (hy : y.size ≤ 1000) : (Lib.minS x y).size ≤ 1000 := by
  unfold Lib.minS
  split <;> assumption
theorem maxS_size {x y : ByteArray} (hx : x.size ≤ 1000) (hy : y.size ≤ 1000) : (Lib.maxS x y).size ≤ 1000 := by
  unfold Lib.maxS
  split <;> assumption
theorem winE_size {g : Gm} (hx : g.1.size ≤ 1000) (hy : g.2.size ≤ 1000) : (winE g).size ≤ 1000 := by
  unfold winE
  split
  · exact maxS_size hx hy
  · exact minS_size hx hy
theorem twos_memE {α β : Type} (f : α → β) (P : β → Prop) : ∀ l : List α, (∀ a ∈ l, P (f a)) → ∀ g ∈ twos f l, P g.1 ∧ P g.2
  | [], _, _, hg => by cases hg
  | [_], _, _, hg => by cases hg
  | a :: b :: l, h, g, hg => by
    rw [twos] at hg
    rcases List.mem_cons.1 hg with rfl | hg
    · exact ⟨h a (List.mem_cons_self ..), h b (List.mem_cons_of_mem _ (List.mem_cons_self ..))⟩
    · exact twos_memE f P l (fun c hc => h c (List.mem_cons_of_mem _ (List.mem_cons_of_mem _ hc))) g hg
theorem whoF_sizeE {who : List ByteArray} (h : ∀ s ∈ who, s.size ≤ 1000) (p : Int) : (whoF who p).size ≤ 1000 := by
  unfold whoF
  split
  · exact Nat.zero_le _
  · cases hq : who[(p - 1).toNat]? with
    | none => exact Nat.zero_le _
    | some s => exact h s (List.mem_of_getElem? hq)
theorem okBr_next {f : Nat} {gs : List Gm} (h : okBr f gs = true) (hl : 1 < gs.length) : ∃ f', gs.length ∈ pw6 ∧ advE gs (gs.map winE) = 0 ∧ advA gs (gs.map winE) = twos id (gs.map winE) ∧ okBr f' (twos id (gs.map winE)) = true := by
  cases f with
  | zero => simp [okBr] at h
  | succ f =>
    rw [okBr, if_neg (by omega)] at h
    simp only [Bool.and_eq_true, decide_eq_true_eq] at h
    obtain ⟨⟨⟨h1, h2⟩, h3⟩, h4⟩ := h
    have hE : advE gs (gs.map winE) = 0 := by
      rw [(advE_len (ws := gs.map winE) h2).2, if_pos (by simp), h3]
    exact ⟨f, h1, hE, by unfold advA; rw [if_pos hE], h4⟩
theorem okBr_end {f : Nat} {gs : List Gm} (h : okBr f gs = true) (hl : gs.length ≤ 1) : gs = endG := by
  cases f with
  | zero => simp [okBr] at h
  | succ f =>
    rw [okBr, if_pos hl] at h
    simpa using h

set_option maxRecDepth 100000 in
set_option maxHeartbeats 4000000 in
theorem bre_walk (a0 : Option Addr) (len0 cap0 : Nat) (z0 : List Int) (w : World) (w0 : InRow w a0 len0 cap0 z0) (ht : Tab w) :
    Calls Tryz.prog 3 #[.slice a0 len0 cap0] w fun e w' => e = .returned (.bool true) ∧ Below w.heap.size w w' := by
  have hs0 := strm_start w0 25
  have hb0 : Bx w.heap.size w.heap.size w (w.alloc (.cells #[.slice a0 len0 cap0, .int .i64 0] 25)) := (Bx.refl _ _ _).alloc (Nat.le_refl _) _
  clear w0
  go_enter Tryz.func3, Tryz.ntmps3
  go_wp2_with fail
  refine (sp_range (Sp.start hs0) 3 20 (by omega) (by omega) (by omega) (by omega)).mono ?_
  rintro e w1 ⟨_, rfl, ⟨p, rfl, hp0, hp1⟩, hS⟩
  obtain ⟨n, rfl⟩ : ∃ n : Nat, p = (n : Int) := ⟨p.toNat, by omega⟩
  have hn3 : 3 ≤ n := by omega
  have hn20 : n ≤ 20 := by omega
  have hb1 := hb0.call hS.bx (Nat.le_refl _)
  have hlt1 := hS.lt
  have HB1 := Lib.hid (hb1.below (Nat.le_refl _))
  have hS1 : Sq w1 w1 [rOwn w1.heap.size 9 1 (.slice none 0 0) 0 (strsV (nmK 0))] := (Sq.start w1).nil w1.heap.size 9 1
  clear hS hs0 hb0 hb1 hp0 hp1
  go_wp2_with fail
  go_loopw [4, 17] (fun v i W => ∃ k : Nat, k ≤ n ∧ i = .int .i64 k ∧ Sq w1 W [rOwn w1.heap.size 9 1 v k (strsV (nmK k))]) (fun _ i _ => n - (intOf i).toNat)
  case atStart => exact ⟨0, Nat.zero_le _, rfl, hS1⟩
  case round =>
    clear hS1
    obtain ⟨k, hk, rfl, hT⟩ := hrel
    by_cases hlt : k < n
    · have hk0 : (0 : Int) ≤ (k : Int) := by omega
      have hk1 : (k : Int) < (n : Int) := by omega
      obtain ⟨i0, hi0, hyy0, hyy1, hyy2⟩ := info_parts info_strC
      have hown : wr.ownsRow w1.heap.size 9 1 u4 k (strsV (nmK k)) := hT.head
      have hsw := hT.size
      go_wp2_with (first
        | (at_builtin; refine wpList_append_own_at _ rfl _ _ 26 rfl w1.heap.size 9 i0 (.string ⟨#[]⟩) 1 16 Tryz.underlying26 hi0 hyy0 hyy1 hyy2 rfl (by decide) _ _ _ rfl (hown.alloc _) ⟨wr.heap.size, 0, none⟩ 1 1 [.string (pStrE (97 + (k : Int)))] rfl rfl (World.news_of_block (heap_alloc_new _ _)) (one1C rfl) (by unfold maxLen; omega) (by omega) (by simp; omega) ?_; intro v' w8 hown' hgrow _ hblk; have hT8 := (hT.alloc (.cells #[.string (pStrE (97 + (k : Int)))] 9)).append hown' hgrow hblk; clear hown' hgrow hblk))
      go_roundw
      case rel =>
        refine ⟨k + 1, by omega, by go_num, ?_⟩
        have he : strsV (nmK (k + 1)) = strsV (nmK k) ++ [.string (pStrE (97 + (k : Int)))] := by rw [nmK_succ]; simp [strsV]
        rw [he]
        exact hT8
      case measure => simp [intOf]; omega
    · obtain rfl : k = n := by omega
      obtain ⟨hE0, hOK⟩ := okBr_all ⟨k, by omega⟩ hn3
      simp only at hE0 hOK
      have hown : wr.ownsRow w1.heap.size 9 1 u4 k (strsV (nmK k)) := hT.head
      obtain ⟨A4, c4, hv⟩ := own_form hown
      subst hv
      have hltr : w.heap.size < wr.heap.size := by have := hT.size; omega
      have hBR := bracket_calls w.heap.size A4 k c4 (nmK k) wr (Rd.own hown hlt1) (nmK_size k) hltr
      unfold BrkS at hBR
      have hA : brkA (nmK k) = brkL (nmK k) := by unfold brkA; rw [if_pos hE0]
      rw [hE0, hA] at hBR
      have hgz : ∀ g ∈ brkL (nmK k), g.1.size ≤ 1000 ∧ g.2.size ≤ 1000 := twos_memE (whoF (nmK k)) (fun s => s.size ≤ 1000) _ (fun a _ => whoF_sizeE (nmK_size k) a)
      obtain ⟨G, hG⟩ : ∃ G, brkL (nmK k) = G := ⟨_, rfl⟩
      rw [hG] at hBR hOK hgz
      have HBR := Lib.hid hBR
      have HBr := Lib.hid (below_call HB1.out hT.below (Nat.le_refl _))
      clear hE0 hown hT hBR hA hG
      go_wp2_with fail
      refine HBR.out.mono ?_
      rintro e w2 ⟨v2, rfl, ho2, hb2⟩
      obtain ⟨A6, c6, hv⟩ := own_form ho2
      subst hv
      have hr2 := Rd.own (b := w.heap.size) ho2 hltr
      have HB2 := Lib.hid (below_call HBr.out hb2 (Nat.le_refl _))
      have hlt2 : w.heap.size < w2.heap.size := by have := hb2.size; omega
      obtain ⟨m0, hm0⟩ : ∃ m, G.length = m := ⟨_, rfl⟩
      rw [hm0] at hr2 ⊢
      have HOK := Lib.hid hOK
      clear ho2 hb2 HBR HBr hOK
      go_wp2_with fail
      go_loopw [6, 7] (fun s6 s7 W => ∃ (f : Nat) (gs : List Gm) (A6 : Option Addr) (m c6 : Nat), s6 = .slice A6 m c6 ∧ s7 = .int .i64 0 ∧ gs.length = m ∧ Hid (okBr f gs = true) ∧ (∀ g ∈ gs, g.1.size ≤ 1000 ∧ g.2.size ≤ 1000) ∧ Below w2.heap.size w2 W ∧ Rd W w.heap.size 2 (.slice A6 m c6) m (gs.flatMap gmC)) (fun s _ _ => match s with | .slice _ m _ => m | _ => 0)
      case atStart => exact ⟨6, G, A6, m0, c6, rfl, rfl, hm0, HOK, hgz, Below.refl _ _, hr2⟩
      case round =>
        clear hr2 hgz HOK hm0
        obtain ⟨f, gs, A6, m, c6, rfl, rfl, hgl, HOK, hgz, hbw, hrd⟩ := hrel
        have hltw : w.heap.size < wr.heap.size := by have := hbw.size; omega
        by_cases hm1 : 1 < m
        · obtain ⟨f', hp, hAE, hAA, hOK'⟩ := okBr_next HOK.out (by omega)
          rw [hgl] at hp
          have hm64 : m ≤ 64 := by simp [pw6] at hp; omega
          have hmi : (1 : Int) < (m : Int) := by omega
          obtain ⟨_, hnc, hcm, hcells⟩ := hrd.cells gmC_len (by omega)
          have HC := Lib.hid hcells
          have HGL := Lib.hid hgl
          have HP := Lib.hid hp
          have HAE := Lib.hid hAE
          have HAA := Lib.hid hAA
          have HOK' := Lib.hid hOK'
          have HRD := Lib.hid hrd
          have HBW := Lib.hid hbw
          have hS2 : Sq wr wr [rOwn wr.heap.size 9 1 (.slice none 0 0) 0 (strsV ((gs.take 0).map winE))] := (Sq.start wr).nil wr.heap.size 9 1
          unfold maxLen at hcm
          clear hgl hp hAE hAA hOK' hrd hcells hbw HOK
          obtain ⟨wq, rfl⟩ : ∃ wq, wq = wr := ⟨wr, rfl⟩
          go_wp2_with fail
          go_loopw [8, 43] (fun v i V => ∃ k : Nat, k ≤ m ∧ i = .int .i64 k ∧ Sq wq V [rOwn wq.heap.size 9 1 v k (strsV ((gs.take k).map winE))]) (fun _ i _ => m - (intOf i).toNat)
          case atStart => exact ⟨0, Nat.zero_le _, rfl, hS2⟩
          case round =>
            clear hS2
            obtain ⟨k, hk', rfl, hT⟩ := hrel
            by_cases hlt : k < m
            · have hkr : k < gs.length := by rw [HGL.out]; exact hlt
              obtain ⟨g, o, hA, _, hcs⟩ := HC.out (by omega)
              subst hA
              have d0 := below_cell hT.below (hcs k hkr 0 (by omega))
              have d1 := below_cell hT.below (hcs k hkr 1 (by omega))
              have hsn : Hid (strsV ((gs.take (k + 1)).map winE) = strsV ((gs.take k).map winE) ++ [.string (winE gs[k])]) := Lib.hid (by rw [List.take_succ_eq_append_getElem hkr, List.map_append]; simp only [strsV, List.map_append, List.map_cons, List.map_nil])
              obtain ⟨q, hq⟩ : ∃ q, gs[k] = q := ⟨_, rfl⟩
              rw [hq] at d0 d1 hsn
              obtain ⟨x, y⟩ := q
              replace d0 : wr.cell? ⟨g, o + k * 2, none⟩ = some (.string x) := d0
              replace d1 : wr.cell? ⟨g, o + k * 2 + 1, none⟩ = some (.string y) := d1
              have hk0 : (0 : Int) ≤ (k : Int) := by omega
              have hk1 : (k : Int) < (m : Int) := by omega
              have hTZ := (hT.add #[.string x, .string y] 32).front 1 rfl rfl
              clear hcs hq hT
              go_upto_region 14 with (fail)
              replace hTZ : Sq wq (wr.alloc (.cells #[.string x, .string y] 32)) [rOwn wq.heap.size 9 1 u8 k (strsV ((gs.take k).map winE)), rBlk wr.heap.size 32 #[.string x, .string y]] := hTZ
              obtain ⟨gx, hgx⟩ : ∃ gx, wr.heap.size = gx := ⟨_, rfl⟩
              rw [hgx] at hTZ ⊢
              obtain ⟨W, hW⟩ : ∃ W, wr.alloc (.cells #[.string x, .string y] 32) = W := ⟨_, rfl⟩
              rw [hW] at hTZ ⊢
              clear hW hgx d0 d1
              have z0 : W.cell? ⟨gx, 0, none⟩ = some (.string x) := (show Blk W gx 32 #[.string x, .string y] from hTZ.nth 1 rfl).cell 0
              have z1 : W.cell? ⟨gx, 1, none⟩ = some (.string y) := (show Blk W gx 32 #[.string x, .string y] from hTZ.nth 1 rfl).cell 1
              by_cases hm : Lib.minS x y = ⟨#[]⟩
              · have hw : winE (x, y) = Lib.maxS x y := by unfold winE; rw [if_pos (emB_t.2 hm)]
                have hme : (Lib.minS x y).toList.isEmpty = true := by rw [hm, Lib.toList_data]; rfl
                have hml : (Lib.minS x y).toList = [] := by simpa using hme
                clear hm
                have hsw := hTZ.size
                obtain ⟨i0, hi0, hyy0, hyy1, hyy2⟩ := info_parts info_strC
                have hown : W.ownsRow wq.heap.size 9 1 u8 k (strsV ((gs.take k).map winE)) := hTZ.head
                go_wp2_with (first
                  | (at_builtin; refine wpList_append_own_at _ rfl _ _ 26 rfl wq.heap.size 9 i0 (.string ⟨#[]⟩) 1 16 Tryz.underlying26 hi0 hyy0 hyy1 hyy2 rfl (by decide) _ _ _ rfl (hown.alloc _) ⟨W.heap.size, 0, none⟩ 1 1 [.string (Lib.maxS x y)] rfl rfl (World.news_of_block (heap_alloc_new _ _)) (one1C rfl) (by unfold maxLen; omega) (by omega) (by simp; omega) ?_; intro v' w8 hown' hgrow _ hblk; have hT8 := (hTZ.alloc (.cells #[.string (Lib.maxS x y)] 9)).append hown' hgrow hblk; clear hown' hgrow hblk))
                go_roundw
                case rel =>
                  refine ⟨k + 1, by omega, by go_num, ?_⟩
                  rw [hsn.out, hw]
                  exact hT8.drop 1 rfl rfl
                case measure => simp [intOf]; omega
              · have hw : winE (x, y) = Lib.minS x y := by unfold winE; rw [if_neg (by rw [emB_f.2 hm]; decide)]
                have hml := em_list hm
                have hme : (Lib.minS x y).toList.isEmpty = false := by simpa using hml
                have hsw := hTZ.size
                obtain ⟨i0, hi0, hyy0, hyy1, hyy2⟩ := info_parts info_strC
                have hown : W.ownsRow wq.heap.size 9 1 u8 k (strsV ((gs.take k).map winE)) := hTZ.head
                go_wp2_with (first
                  | (at_builtin; refine wpList_append_own_at _ rfl _ _ 26 rfl wq.heap.size 9 i0 (.string ⟨#[]⟩) 1 16 Tryz.underlying26 hi0 hyy0 hyy1 hyy2 rfl (by decide) _ _ _ rfl (hown.alloc _) ⟨W.heap.size, 0, none⟩ 1 1 [.string (Lib.minS x y)] rfl rfl (World.news_of_block (heap_alloc_new _ _)) (one1C rfl) (by unfold maxLen; omega) (by omega) (by simp; omega) ?_; intro v' w8 hown' hgrow _ hblk; have hT8 := (hTZ.alloc (.cells #[.string (Lib.minS x y)] 9)).append hown' hgrow hblk; clear hown' hgrow hblk))
                go_roundw
                case rel =>
                  refine ⟨k + 1, by omega, by go_num, ?_⟩
                  rw [hsn.out, hw]
                  exact hT8.drop 1 rfl rfl
                case measure => simp [intOf]; omega
            · obtain rfl : k = m := by omega
              have hown : wr.ownsRow wq.heap.size 9 1 u8 k (strsV ((gs.take k).map winE)) := hT.head
              rw [List.take_of_length_le (by rw [HGL.out]; exact Nat.le_refl _)] at hown
              obtain ⟨A8, c8, hv⟩ := own_form hown
              subst hv
              have hloo : ∀ g o, A8 = some ⟨g, o, none⟩ → g < wr.heap.size := by
                intro g o hA
                subst hA
                exact (hown.lt g rfl).2
              have hltr : w.heap.size < wr.heap.size := by have := hT.size; omega
              have hAD := advance_calls w.heap.size A6 A8 k c6 k c8 gs (gs.map winE) wr (HRD.out.below hT.below) (Rd.own hown hltw) (fun g hg => ⟨by have := (hgz g hg).1; omega, by have := (hgz g hg).2; omega⟩) (.inr (.inr HP.out)) hltr hloo
              unfold AdvS at hAD
              rw [HAE.out, HAA.out] at hAD
              have HAD := Lib.hid hAD
              have hgz2 : ∀ g ∈ twos id (gs.map winE), g.1.size ≤ 1000 ∧ g.2.size ≤ 1000 := twos_memE (α := ByteArray) id (fun s : ByteArray => s.size ≤ 1000) _ (fun a ha => by
                obtain ⟨g, hg, rfl⟩ := List.mem_map.1 ha
                exact winE_size (hgz g hg).1 (hgz g hg).2)
              have hln : (twos id (gs.map winE)).length = k / 2 := by rw [twos_len, List.length_map, HGL.out]
              have hbr2 := below_call HBW.out hT.below (Nat.le_refl _)
              rw [hln] at HAD
              have HLN := Lib.hid hln
              clear hown hT hAD hloo hln
              go_wp2_with fail
              refine HAD.out.mono ?_
              rintro e w7 ⟨v7, rfl, ho7, hb7⟩
              obtain ⟨A7, c7, hv⟩ := own_form ho7
              subst hv
              have hrd7 := Rd.own (b := w.heap.size) ho7 hltr
              have hb8 := below_call hbr2 hb7 (Nat.le_refl _)
              clear ho7 hb7
              go_wp2_with fail
              go_roundw
              case rel => exact ⟨f', _, A7, k / 2, c7, rfl, rfl, HLN.out, HOK', hgz2, hb8, hrd7⟩
              case measure => simp; omega
        · have he := okBr_end HOK.out (by omega)
          subst he
          obtain rfl : m = 1 := by rw [← hgl]; rfl
          obtain ⟨_, hnc, hcm, hcells⟩ := hrd.cells gmC_len (by omega)
          obtain ⟨g, o, hA, _, hcs⟩ := hcells (by omega)
          subst hA
          have e0 := hcs 0 (by decide) 0 (by omega)
          have e1 := hcs 0 (by decide) 1 (by omega)
          replace e0 : wr.cell? ⟨g, o, none⟩ = some (.string ⟨#[112, 97]⟩) := by simpa [endG, gmC] using e0
          replace e1 : wr.cell? ⟨g, o + 1, none⟩ = some (.string ⟨#[112, 98]⟩) := by simpa [endG, gmC] using e1
          have hRY := Lib.hid (ready_calls w.heap.size wr hltw (ht.below (below_call HB2.out hbw (Nat.le_refl _))))
          have hfin := below_call HB2.out hbw (Nat.le_refl _)
          clear hcs hcells hrd HOK hgz hgl
          go_wp2_with fail
          refine hRY.out.mono ?_
          rintro e w5 ⟨rfl, hb5⟩
          go_wp2_with fail
          go_ret
          exact ⟨rfl, below_call hfin hb5 (Nat.le_refl _)⟩
end Go.Proofs.YtejadhehmcifoaaGreatDoor
