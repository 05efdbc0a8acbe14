/-
  Advance of the program by one contract: a range over slices.Chunk.
-/
import Derived.Test.YtejadhehmcifoaaGreatDoorZAdv1
import Derived.Test.YtejadhehmcifoaaGreatDoorZBrk3
namespace Go.Proofs.YtejadhehmcifoaaGreatDoor
open Go Go.RowKit Go.Shelf
attribute [local go_sem] Oper.semAt_some

def AdvS (gs : List Gm) (ws : List ByteArray) (w : World) (e : Ending) (w' : World) : Prop :=
  ∃ v, e = .returned (.tuple #[v, .int .i64 (advE gs ws)]) ∧ w'.ownsRow w.heap.size 32 2 v (advA gs ws).length ((advA gs ws).flatMap gmC) ∧ Below w.heap.size w w'
theorem AdvS.bad {gs : List Gm} {ws : List ByteArray} {w w' : World} {E : Int} (hE : advE gs ws = E) (h0 : E ≠ 0) (h : Below w.heap.size w w') : AdvS gs ws w (.returned (.tuple #[.slice none 0 0, .int .i64 E])) w' := by
  refine ⟨_, by rw [hE], ?_, h⟩
  unfold advA
  rw [if_neg (by rw [hE]; exact h0)]
  exact World.ownsRow_nil _ _ _ _

theorem advE_len {gs : List Gm} {ws : List ByteArray} (h : brfE gs = 0) : gs.length ∈ pw6 ∧ advE gs ws = if ws.length = gs.length then advW gs ws else 3 := by
  unfold brfE at h
  by_cases hp : gs.length ∈ pw6
  · rw [if_pos hp] at h
    refine ⟨hp, ?_⟩
    unfold advE
    rw [if_pos hp, if_pos h]
  · rw [if_neg hp] at h
    exact absurd h (by decide)
theorem advE_bad {gs : List Gm} {ws : List ByteArray} (h : brfE gs ≠ 0) : advE gs ws = brfE gs := by
  unfold brfE advE at *
  by_cases hp : gs.length ∈ pw6
  · rw [if_pos hp] at h ⊢
    rw [if_neg h, if_pos hp]
  · rw [if_neg hp, if_neg hp]
/-- the game of two winners -/
def wsAt (ws : List ByteArray) (j : Nat) : ByteArray × ByteArray := ((ws[2 * j]?).getD ⟨#[]⟩, (ws[2 * j + 1]?).getD ⟨#[]⟩)
theorem twos_ws (ws : List ByteArray) (t : Nat) (hP : ws.length = 2 * t) : (List.finRange t).map (fun x => wsAt ws x.1) = twos id ws := by
  have h : ∀ k, k ≤ t → (List.range k).map (wsAt ws) = twos id (ws.take (2 * k)) := fun k => by
    induction k with
    | zero => intro _; simp [twos]
    | succ k ih =>
      intro hk
      have h0 : 2 * k < ws.length := by omega
      have h1 : 2 * k + 1 < ws.length := by omega
      rw [List.range_succ, List.map_append, ih (by omega), twos_take id ws k ws[2 * k] ws[2 * k + 1] (List.getElem?_eq_getElem h0) (List.getElem?_eq_getElem h1)]
      simp [wsAt, List.getElem?_eq_getElem h0, List.getElem?_eq_getElem h1]
  have h2 := h t (Nat.le_refl _)
  rw [List.take_of_length_le (by omega)] at h2
  rw [← h2]
  apply List.ext_getElem
  · simp
  · intro i h1 h2
    simp
theorem pw6_even {n : Nat} (h : n ∈ pw6) : ∃ t, 2 * t = n := by
  simp [pw6] at h
  exact ⟨n / 2, by omega⟩

set_option maxRecDepth 100000 in
set_option maxHeartbeats 4000000 in
theorem advance_calls (b : Nat) (A A2 : Option Addr) (n c n2 c2 : Nat) (gs : List Gm) (ws : List ByteArray) (w : World) (hr : Rd w b 2 (.slice A n c) n (gs.flatMap gmC)) (hr2 : Rd w b 1 (.slice A2 n2 c2) n2 (strsV ws))
    (hk : ∀ g ∈ gs, g.1.size ≤ 4000 ∧ g.2.size ≤ 4000) (hn : n = 0 ∨ n = 1 ∨ n ∈ pw6) (hb : b < w.heap.size) (hlo : ∀ g o, A2 = some ⟨g, o, none⟩ → g < w.heap.size) :
    Calls Tryz.prog 7 #[.slice A n c, .slice A2 n2 c2] w (AdvS gs ws w) := by
  obtain ⟨hl, hnc, hcm, hcells⟩ := hr.cells gmC_len (by omega)
  obtain ⟨hl2, hnc2, hcm2, hcells2⟩ := strs_cells hr2
  unfold maxLen at hcm hcm2
  have HBF := Lib.hid (bracketFaultP_calls b A n c gs w hr hk hn hb)
  refine (callsIn_wide (n := 3)).1 (callsIn_of_wp_marks Tryz.func7 rfl trivial ?_ rfl)
  simp only [Tryz.ntmps7, List.size_toArray, List.length_cons, List.length_nil, Nat.reduceAdd, Nat.reduceSub, Array.replicate_succ, Array.replicate_zero, List.push_toArray, List.append_toArray, List.nil_append, List.cons_append]
  refine (wpIn_wide (n := 3)).2 ?_
  by_cases h0 : brfE gs = 0
  · obtain ⟨hpw, hE1⟩ := advE_len (ws := ws) h0
    rw [h0] at HBF
    rw [hl] at hpw hE1
    by_cases h1 : n2 = n
    · subst h1
      have HE := Lib.hid (show advE gs ws = advW (gs.drop 0) (ws.drop 0) by rw [hE1, if_pos hl2]; rfl)
      have HL := Lib.hid hl
      have HL2 := Lib.hid hl2
      have HC := Lib.hid hcells
      have HC2 := Lib.hid hcells2
      have HPW := Lib.hid hpw
      clear hl hl2 hcells hcells2 hE1 hpw hn
      go_wp2_with fail
      refine HBF.out.mono ?_
      rintro e w1 ⟨rfl, hb1⟩
      go_wp2_with fail
      go_loopw [23] (fun i wr => ∃ k : Nat, k ≤ n2 ∧ i = .int .i64 k ∧ Hid (advE gs ws = advW (gs.drop k) (ws.drop k)) ∧ Below w.heap.size w wr) (fun i _ => n2 - (intOf i).toNat)
      case atStart => exact ⟨0, Nat.zero_le _, rfl, HE, hb1⟩
      case round =>
        clear HE hb1
        obtain ⟨k, hk', rfl, HE, hbr⟩ := hrel
        by_cases hlt : k < n2
        · have hkr : k < gs.length := by rw [HL.out]; exact hlt
          have hkr2 : k < ws.length := by rw [HL2.out]; exact hlt
          obtain ⟨g, o, hA, hgb, hcs⟩ := HC.out (by omega)
          obtain ⟨g2, o2, hA2, hgb2, hcs2⟩ := HC2.out (by omega)
          subst hA hA2
          have d0 := below_cell hbr (hcs k hkr 0 (by omega))
          have d1 := below_cell hbr (hcs k hkr 1 (by omega))
          have d2 := below_cell hbr (hcs2 k hkr2)
          have hst := HE.out.trans (advW_step gs ws k hkr hkr2)
          obtain ⟨q, hq⟩ : ∃ q, gs[k] = q := ⟨_, rfl⟩
          obtain ⟨s, hs⟩ : ∃ q, ws[k] = q := ⟨_, rfl⟩
          rw [hq] at d0 d1 hst
          rw [hs] at d2 hst
          obtain ⟨x, y⟩ := q
          replace d0 : wr.cell? ⟨g, o + k * 2, none⟩ = some (.string x) := d0
          replace d1 : wr.cell? ⟨g, o + k * 2 + 1, none⟩ = some (.string y) := d1
          have hk0 : (0 : Int) ≤ (k : Int) := by omega
          have hk1 : (k : Int) < (n2 : Int) := by omega
          obtain ⟨WB, hWB⟩ : ∃ B, winB (x, y) s = B := ⟨_, rfl⟩
          rw [hWB] at hst
          have HST := Lib.hid hst
          have HWB := Lib.hid hWB
          clear hcs hcs2 hq hs hst hWB
          by_cases hs0 : s = ⟨#[]⟩
          · have hw0 := HWB.out
            unfold winB at hw0
            rw [emB_t.2 hs0] at hw0
            simp at hw0
            subst hw0 hs0
            have HS := Lib.hid (HST.out.trans (if_neg (by decide)))
            go_wp2_with fail
            exact bodyPostM_ret (v := .tuple #[.slice none 0 0, .int .i64 8]) (by simp [results, Tryz.results7, go_sem]) rfl (AdvS.bad HS.out (by decide) hbr)
          · have hsl := em_list hs0
            have hse : s.toList.isEmpty = false := by simpa using hsl
            have hw0 := HWB.out
            unfold winB at hw0
            rw [emB_f.2 hs0] at hw0
            by_cases hx : s = x
            · rw [decide_eq_true hx] at hw0
              simp at hw0
              subst hw0 hx
              have HS := Lib.hid (HST.out.trans (if_pos rfl))
              go_wp2_with fail
              go_roundw
              case rel => exact ⟨k + 1, by omega, by go_num, HS, hbr⟩
              case measure => simp [intOf]; omega
            · have hxl := list_ne hx
              have hxe : (s.toList == x.toList) = false := by simpa using hxl
              rw [decide_eq_false hx] at hw0
              by_cases hy : s = y
              · rw [decide_eq_true hy] at hw0
                simp at hw0
                subst hw0 hy
                have HS := Lib.hid (HST.out.trans (if_pos rfl))
                go_wp2_with fail
                go_roundw
                case rel => exact ⟨k + 1, by omega, by go_num, HS, hbr⟩
                case measure => simp [intOf]; omega
              · have hyl := list_ne hy
                have hye : (s.toList == y.toList) = false := by simpa using hyl
                rw [decide_eq_false hy] at hw0
                simp at hw0
                subst hw0
                have HS := Lib.hid (HST.out.trans (if_neg (by decide)))
                go_wp2_with fail
                exact bodyPostM_ret (v := .tuple #[.slice none 0 0, .int .i64 8]) (by simp [results, Tryz.results7, go_sem]) rfl (AdvS.bad HS.out (by decide) hbr)
        · obtain rfl : k = n2 := by omega
          have HE0 := Lib.hid (show advE gs ws = 0 by rw [HE.out, List.drop_of_length_le (by rw [HL.out]; exact Nat.le_refl _)]; rfl)
          obtain ⟨t, ht⟩ := pw6_even HPW.out
          have hk64 : 2 ≤ k ∧ k ≤ 64 := by have h := HPW.out; simp [pw6] at h; omega
          obtain ⟨g2, o2, hA2, hgb2, hcs2⟩ := HC2.out (by omega)
          have hg2 := hlo g2 o2 hA2
          subst hA2
          clear HE
          have hszr := hbr.size
          go_wp2_with fail
          refine (chunkS_calls _ k c2 _).mono ?_
          rintro e w6 ⟨rfl, rfl⟩
          go_wp2_with fail
          have hS6 := (((Sq.start wr).add #[.slice none 0 0] 28).add #[.slice (some ⟨g2, o2, none⟩) k c2] 26).add #[.int .i64 2] 3
          rw [World.size_alloc, World.size_alloc] at hS6
          have hsz6 : (((wr.alloc (.cells #[.slice none 0 0] 28)).alloc (.cells #[.slice (some ⟨g2, o2, none⟩) k c2] 26)).alloc (.cells #[.int .i64 2] 3)).heap.size = wr.heap.size + 1 + 1 + 1 := by simp
          obtain ⟨W6, hW6⟩ : ∃ W6, ((wr.alloc (.cells #[.slice none 0 0] 28)).alloc (.cells #[.slice (some ⟨g2, o2, none⟩) k c2] 26)).alloc (.cells #[.int .i64 2] 3) = W6 := ⟨_, rfl⟩
          rw [hW6] at hS6 hsz6 ⊢
          have k0 : W6.cell? ⟨wr.heap.size + 1, 0, none⟩ = some (.slice (some ⟨g2, o2, none⟩) k c2) := (show Blk W6 (wr.heap.size + 1) 26 _ from hS6.nth 1 rfl).cell 0
          have k1 : W6.cell? ⟨wr.heap.size + 1 + 1, 0, none⟩ = some (.int .i64 2) := (show Blk W6 (wr.heap.size + 1 + 1) 3 _ from hS6.nth 0 rfl).cell 0
          have hbo : Boxed W6 wr.heap.size 28 (.slice none 0 0) := (show Blk W6 wr.heap.size 28 #[.slice none 0 0] from hS6.nth 2 rfl)
          have hST := chunkS_stops 2 (by omega) (wr.heap.size + 1) (wr.heap.size + 1 + 1) W6.heap.size wr.heap.size g2 o2 t k c2 ht (by omega) (by omega) (by omega) (by omega) (by omega) hnc2 (by omega) W6 (Nat.le_refl _) k0 k1
          refine (wpIn_wide (n := 3)).1 ?_
          -- TAIL (gen_adv2.py)
          have HS6 := Lib.hid hS6
          have HCW := Lib.hid (below_call hbr hS6.below (Nat.le_refl _))
          have HWS : Hid (∀ j (hj : j < ws.length), W6.cell? ⟨g2, o2 + j, none⟩ = some (.string ws[j])) := Lib.hid (fun j hj => below_cell HCW.out (hcs2 j hj))
          refine wpIn_rangeFunc_ownG (by rfl) (by omega) (encs := fun x : Fin t => #[Value.slice (some ⟨g2, o2 + 2 * x.1, none⟩) 2 2]) (Kp := Bx W6.heap.size wr.heap.size) (gf := 44) (lb := #[.pointer (some ⟨wr.heap.size + 1, 0, none⟩), .pointer (some ⟨wr.heap.size + 1 + 1, 0, none⟩)]) (by rfl) trivial (enters_of Tryz.func44 (by kernel_rfl) rfl)
            hST (fun h k => bxK_t h k) (bxK_b (n := W6.heap.size) (Bo := wr.heap.size) (w := W6) (Nat.le_refl _)) (Below.refl _ _) (fun _ => rfl)
            (fun (pre : List (Fin t)) W => (∃ v, Boxed W wr.heap.size 28 v ∧ W.ownsRow W6.heap.size 32 2 v pre.length ((pre.map (fun x => wsAt ws x.1)).flatMap gmC) ∧ True) ∧ Bx W6.heap.size wr.heap.size W6 W)
            (fun _ _ _ => False)
            (OwnFrom.and (Own.from (holdsRow_own W6.heap.size wr.heap.size 28 32 2 (fun (pre : List (Fin t)) => pre.length) (fun (pre : List (Fin t)) => (pre.map (fun x => wsAt ws x.1)).flatMap gmC) (fun _ _ => True)) _) (ownFrom_bx (Nat.le_refl _)))
            (fun _ _ _ _ _ hs _ _ => hs)
            ⟨⟨_, hbo, World.ownsRow_nil _ _ _ _, trivial⟩, Bx.refl _ _ _⟩
            (fun x => { tmps := #[.slice A k c, .slice (some ⟨g2, o2, none⟩) k c2, undef, undef, u4, u5, .int .i64 0, u7, u8, .pointer (some ⟨wr.heap.size, 0, none⟩), .slice (some ⟨g2, o2 + 2 * x.1, none⟩) 2 2, .slice A k c, .int .i64 0, .int .i64 0, .bool false, undef, .slice (some ⟨g2, o2, none⟩) k c2, .int .i64 (k : Int), .slice A k c, .int .i64 (k : Int), .bool false, .slice (some ⟨g2, o2, none⟩) k c2, .int .i64 (k : Int), .int .i64 (k : Int), .bool false, u25, u26, u27, u28, u29, u30, u31, u32, u33, u34, u35, u36, u37, u38, u39, u40, u41, u42, u43, u44, u45, u46, u47, u48, .slice (some ⟨g2, o2, none⟩) k c2, .func (.func 44) #[] #[.pointer (some ⟨wr.heap.size + 1, 0, none⟩), .pointer (some ⟨wr.heap.size + 1 + 1, 0, none⟩)], .slice (some ⟨g2, o2 + 2 * x.1, none⟩) 2 2, undef, undef, undef, undef, undef, undef, undef, undef, undef, undef, undef], defers := [] }) ?hassign ?hbody ?hdone ?hstop
          case hassign =>
            intro l x W K hK
            gi_wp2
            exact hK
          case hbody =>
            rintro l pre x W ⟨⟨v, hv, hrow, _⟩, hB⟩ hlt
            refine wpIn_block ?_
            refine wpIn_region_any rfl ?_
            have hxt := x.2
            have hx0 : 2 * x.1 < ws.length := by rw [HL2.out]; omega
            have hx1 : 2 * x.1 + 1 < ws.length := by rw [HL2.out]; omega
            have hg : wsAt ws x.1 = (ws[2 * x.1], ws[2 * x.1 + 1]) := by unfold wsAt; rw [List.getElem?_eq_getElem hx0, List.getElem?_eq_getElem hx1]; rfl
            have z0 := HWS.out _ hx0
            have z1 := HWS.out _ hx1
            obtain ⟨s0, hs0⟩ : ∃ s, ws[2 * x.1] = s := ⟨_, rfl⟩
            obtain ⟨s1, hs1⟩ : ∃ s, ws[2 * x.1 + 1] = s := ⟨_, rfl⟩
            rw [hs0] at hg z0
            rw [hs1] at hg z1
            have z1' : W6.cell? ⟨g2, o2 + 2 * x.1 + 1, none⟩ = some (.string s1) := by rw [Nat.add_assoc]; exact z1
            have hlr := HCW.out.size
            have HZ : Hid (∀ V, Bx W6.heap.size wr.heap.size W V → V.cell? ⟨g2, o2 + 2 * x.1, none⟩ = some (.string s0) ∧ V.cell? ⟨g2, o2 + 2 * x.1 + 1, none⟩ = some (.string s1)) := Lib.hid (fun V hV => ⟨((hB.trans hV).cell_ (p := ⟨g2, o2 + 2 * x.1, none⟩) (show g2 < W6.heap.size by omega) (show g2 ≠ wr.heap.size by omega)).trans z0, ((hB.trans hV).cell_ (p := ⟨g2, o2 + 2 * x.1 + 1, none⟩) (show g2 < W6.heap.size by omega) (show g2 ≠ wr.heap.size by omega)).trans z1'⟩)
            have HG := Lib.hid hg
            obtain ⟨o3, ho3⟩ : ∃ o3, o2 + 2 * x.1 = o3 := ⟨_, rfl⟩
            rw [ho3] at HZ
            simp only [ho3]
            have hstart : BSt W W6.heap.size wr.heap.size v pre.length ((pre.map (fun x => wsAt ws x.1)).flatMap gmC) s0 s1 false false false false undef undef W.drew := BSt.start hv hrow
            have hW6 := hB.size
            have hpre : pre.length ≤ 1000 := by omega
            clear hs0 hs1 hg z0 z1 z1' hx0 hx1 hv hrow
            refine wpAnyIn_inv (Inv := fun li a V => ∃ (b0 b1 b2 b3 b4 b5 b6 b7 b8 b9 b10 : Bool) (x52 x53 x54 x55 x56 x57 x58 x59 x60 x61 : Value), li = #[b0, b1, b2, b3, b4, b5, b6, b7, b8, b9, b10] ∧ a = ({ tmps := #[.slice A k c, .slice (some ⟨g2, o2, none⟩) k c2, undef, undef, u4, u5, .int .i64 0, u7, u8, .pointer (some ⟨wr.heap.size, 0, none⟩), .slice (some ⟨g2, o3, none⟩) 2 2, .slice A k c, .int .i64 0, .int .i64 0, .bool false, undef, .slice (some ⟨g2, o2, none⟩) k c2, .int .i64 (k : Int), .slice A k c, .int .i64 (k : Int), .bool false, .slice (some ⟨g2, o2, none⟩) k c2, .int .i64 (k : Int), .int .i64 (k : Int), .bool false, u25, u26, u27, u28, u29, u30, u31, u32, u33, u34, u35, u36, u37, u38, u39, u40, u41, u42, u43, u44, u45, u46, u47, u48, .slice (some ⟨g2, o2, none⟩) k c2, .func (.func 44) #[] #[.pointer (some ⟨wr.heap.size + 1, 0, none⟩), .pointer (some ⟨wr.heap.size + 1 + 1, 0, none⟩)], .slice (some ⟨g2, o3, none⟩) 2 2, x52, x53, x54, x55, x56, x57, x58, x59, x60, x61, undef], defers := [] } : Act) ∧ (b0 = true → x52 = v) ∧ (b1 = true → x53 = .slice (some ⟨g2, o3, none⟩) 2 2) ∧ (b2 = true → x54 = .pointer (some ⟨g2, o3, none⟩)) ∧ (b3 = true → x55 = .string s0) ∧ (b4 = true → x56 = .slice (some ⟨g2, o3, none⟩) 2 2) ∧ (b5 = true → x57 = .pointer (some ⟨g2, o3 + 1, none⟩)) ∧ (b6 = true → x58 = .string s1) ∧ (b7 = true → x59 = .agg #[.string s0, .string s1]) ∧ BSt W W6.heap.size wr.heap.size v pre.length ((pre.map (fun x => wsAt ws x.1)).flatMap gmC) s0 s1 b0 b8 b9 b10 x60 x61 V) ?_ _ _ _ _ (by decide) rfl ?_
            rotate_left
            · exact ⟨false, false, false, false, false, false, false, false, false, false, false, undef, undef, undef, undef, undef, undef, undef, undef, undef, undef, rfl, rfl, (fun h => by cases h), (fun h => by cases h), (fun h => by cases h), (fun h => by cases h), (fun h => by cases h), (fun h => by cases h), (fun h => by cases h), (fun h => by cases h), hstart⟩
            rintro li a V ⟨b0, b1, b2, b3, b4, b5, b6, b7, b8, b9, b10, x52, x53, x54, x55, x56, x57, x58, x59, x60, x61, rfl, rfl, h0, h1, h2, h3, h4, h5, h6, h7, hI⟩
            by_cases hall : (b0 && b1 && b2 && b3 && b4 && b5 && b6 && b7 && b8 && b9 && b10) = true
            · simp only [Bool.and_eq_true] at hall
              obtain ⟨⟨⟨⟨⟨⟨⟨⟨⟨⟨rfl, rfl⟩, rfl⟩, rfl⟩, rfl⟩, rfl⟩, rfl⟩, rfl⟩, rfl⟩, rfl⟩, rfl⟩ := hall
              left
              intro fuel _
              refine wpAnyIn_done (by kernel_rfl) ?_ fuel
              obtain ⟨hx4, hr4⟩ := hI.p4 rfl
              refine ⟨hI.kp, hI.bx, ⟨x61, hx4, ?_, trivial⟩, hB.trans hI.bx⟩
              rw [List.length_append, List.map_append, List.flatMap_append]
              have hge : List.flatMap gmC (List.map (fun x => wsAt ws x.1) [x]) = [.string s0, .string s1] := by simp [HG.out, gmC]
              rw [hge]
              exact hr4
            right
            refine ⟨fun he => ?_, fun i hi => ?_⟩
            · clear hI
              cases b0
              · exact ready_ne he 0 rfl rfl (by rfl)
              cases b1
              · exact ready_ne he 1 rfl rfl (by rfl)
              cases b2
              · exact ready_ne he 2 rfl rfl (by rfl)
              cases b3
              · exact ready_ne he 3 rfl rfl (by rfl)
              cases b4
              · exact ready_ne he 4 rfl rfl (by rfl)
              cases b5
              · exact ready_ne he 5 rfl rfl (by rfl)
              cases b6
              · exact ready_ne he 6 rfl rfl (by rfl)
              cases b7
              · exact ready_ne he 7 rfl rfl (by rfl)
              cases b8
              · exact ready_ne he 8 rfl rfl (by rfl)
              cases b9
              · exact ready_ne he 9 rfl rfl (by rfl)
              cases b10
              · exact ready_ne he 10 rfl rfl (by rfl)
              exact hall rfl
            obtain ⟨hz, o, ho, hd0⟩ := mem_ready.1 hi
            have hlt' : i < 11 := (Array.getElem?_eq_some_iff.1 ho).1
            clear hd0 ho o hall
            obtain ⟨n0, n1⟩ := HZ.out V hI.bx
            have hlo : V.heap.size ≥ W6.heap.size := by have := hI.bx.size; omega
            have hc : i = 0 ∨ i = 1 ∨ i = 2 ∨ i = 3 ∨ i = 4 ∨ i = 5 ∨ i = 6 ∨ i = 7 ∨ i = 8 ∨ i = 9 ∨ i = 10 := by omega
            rcases hc with rfl | rfl | rfl | rfl | rfl | rfl | rfl | rfl | rfl | rfl | rfl
            · obtain rfl : b0 = false := hz
              have c0 := hI.out0
              have hI0 := hI.op0
              refine wpOpIn_step rfl (fun K hK => ?_)
              have HK := Lib.hid hK
              clear hK
              go_simp
              exact HK.out _ _ ⟨true, b1, b2, b3, b4, b5, b6, b7, b8, b9, b10, _, _, _, _, _, _, _, _, _, _, rfl, rfl, (fun _ => rfl), h1, h2, h3, h4, h5, h6, h7, hI0⟩
            · obtain rfl : b1 = false := hz
              refine wpOpIn_step rfl (fun K hK => ?_)
              have HK := Lib.hid hK
              clear hK
              go_simp
              exact HK.out _ _ ⟨b0, true, b2, b3, b4, b5, b6, b7, b8, b9, b10, _, _, _, _, _, _, _, _, _, _, rfl, rfl, h0, (fun _ => rfl), h2, h3, h4, h5, h6, h7, hI⟩
            · obtain rfl : b2 = false := hz
              have d1 : b1 = true := ready_dep hi 1 (by kernel_rfl)
              obtain rfl := h1 d1
              refine wpOpIn_step rfl (fun K hK => ?_)
              have HK := Lib.hid hK
              clear hK
              go_simp
              exact HK.out _ _ ⟨b0, b1, true, b3, b4, b5, b6, b7, b8, b9, b10, _, _, _, _, _, _, _, _, _, _, rfl, rfl, h0, h1, (fun _ => rfl), h3, h4, h5, h6, h7, hI⟩
            · obtain rfl : b3 = false := hz
              have d2 : b2 = true := ready_dep hi 2 (by kernel_rfl)
              obtain rfl := h2 d2
              refine wpOpIn_step rfl (fun K hK => ?_)
              have HK := Lib.hid hK
              clear hK
              go_simp
              exact HK.out _ _ ⟨b0, b1, b2, true, b4, b5, b6, b7, b8, b9, b10, _, _, _, _, _, _, _, _, _, _, rfl, rfl, h0, h1, h2, (fun _ => rfl), h4, h5, h6, h7, hI⟩
            · obtain rfl : b4 = false := hz
              refine wpOpIn_step rfl (fun K hK => ?_)
              have HK := Lib.hid hK
              clear hK
              go_simp
              exact HK.out _ _ ⟨b0, b1, b2, b3, true, b5, b6, b7, b8, b9, b10, _, _, _, _, _, _, _, _, _, _, rfl, rfl, h0, h1, h2, h3, (fun _ => rfl), h5, h6, h7, hI⟩
            · obtain rfl : b5 = false := hz
              have d4 : b4 = true := ready_dep hi 4 (by kernel_rfl)
              obtain rfl := h4 d4
              refine wpOpIn_step rfl (fun K hK => ?_)
              have HK := Lib.hid hK
              clear hK
              go_simp
              exact HK.out _ _ ⟨b0, b1, b2, b3, b4, true, b6, b7, b8, b9, b10, _, _, _, _, _, _, _, _, _, _, rfl, rfl, h0, h1, h2, h3, h4, (fun _ => rfl), h6, h7, hI⟩
            · obtain rfl : b6 = false := hz
              have d5 : b5 = true := ready_dep hi 5 (by kernel_rfl)
              obtain rfl := h5 d5
              refine wpOpIn_step rfl (fun K hK => ?_)
              have HK := Lib.hid hK
              clear hK
              go_simp
              exact HK.out _ _ ⟨b0, b1, b2, b3, b4, b5, true, b7, b8, b9, b10, _, _, _, _, _, _, _, _, _, _, rfl, rfl, h0, h1, h2, h3, h4, h5, (fun _ => rfl), h7, hI⟩
            · obtain rfl : b7 = false := hz
              have d3 : b3 = true := ready_dep hi 3 (by kernel_rfl)
              have d6 : b6 = true := ready_dep hi 6 (by kernel_rfl)
              obtain rfl := h3 d3
              obtain rfl := h6 d6
              refine wpOpIn_step rfl (fun K hK => ?_)
              have HK := Lib.hid hK
              clear hK
              go_simp
              exact HK.out _ _ ⟨b0, b1, b2, b3, b4, b5, b6, true, b8, b9, b10, _, _, _, _, _, _, _, _, _, _, rfl, rfl, h0, h1, h2, h3, h4, h5, h6, (fun _ => rfl), hI⟩
            · obtain rfl : b8 = false := hz
              have d7 : b7 = true := ready_dep hi 7 (by kernel_rfl)
              obtain rfl := h7 d7
              have hI2 := hI.opl (by omega)
              refine wpOpIn_step rfl (fun K hK => ?_)
              have HK := Lib.hid hK
              clear hK
              go_simp
              exact HK.out _ _ ⟨b0, b1, b2, b3, b4, b5, b6, b7, true, b9, b10, _, _, _, _, _, _, _, _, _, _, rfl, rfl, h0, h1, h2, h3, h4, h5, h6, h7, hI2⟩
            · obtain rfl : b9 = false := hz
              have d0 : b0 = true := ready_dep hi 0 (by kernel_rfl)
              have d8 : b8 = true := ready_dep hi 8 (by kernel_rfl)
              subst d8
              subst d0
              obtain rfl := h0 rfl
              refine wpOpIn_step rfl (fun K hK => ?_)
              have HK := Lib.hid hK
              clear hK
              refine BSt.app rfl (.tmp 52) (.tmp 60) rfl hI b (by omega) (by omega) hpre rfl rfl (fun v' V' hI3 => ?_)
              exact HK.out _ _ ⟨true, b1, b2, b3, b4, b5, b6, b7, true, true, b10, _, _, _, _, _, _, _, _, _, _, rfl, rfl, (fun _ => rfl), h1, h2, h3, h4, h5, h6, h7, hI3⟩
            · obtain rfl : b10 = false := hz
              have d9 : b9 = true := ready_dep hi 9 (by kernel_rfl)
              subst d9
              have d8 := hI.og3 rfl
              have d0 := hI.og1 rfl
              subst d8 d0
              have hI4 := hI.ops
              have c0 := (hI.p3 rfl rfl).1.cell
              have f0 := (hI.p3 rfl rfl).1.frozen
              obtain ⟨A8, c8, hv8⟩ := own_form (hI.p3 rfl rfl).2
              subst hv8
              refine wpOpIn_step rfl (fun K hK => ?_)
              have HK := Lib.hid hK
              clear hK
              go_simp
              exact HK.out _ _ ⟨true, b1, b2, b3, b4, b5, b6, b7, true, true, true, _, _, _, _, _, _, _, _, _, _, rfl, rfl, (fun _ => rfl), h1, h2, h3, h4, h5, h6, h7, hI4⟩
          case hdone =>
            rintro D ys W hD rfl ⟨⟨v, hv, hrow, _⟩, hB⟩ hK
            have hc := hv.cell
            have hlr := HCW.out.size
            have hbW : Below w.heap.size w W := HCW.out.trans ((hB.mono hlr).below (by omega))
            have hbZ := hbW.trans (belowK_b (w := w) (Nat.le_refl _) W D _ (.deferred none) (by omega) hK rfl rfl)
            have hrow2 := own_base (ownsRow_putObj hrow (.deferred none) hK rfl) hlr
            have hLL : (List.finRange t).map (fun x => wsAt ws x.1) = advA gs ws := by
              rw [twos_ws ws t (by rw [HL2.out, ht])]
              unfold advA
              rw [if_pos HE0.out]
            have hLn : (List.finRange t).length = (advA gs ws).length := by rw [← hLL, List.length_map]
            rw [hLL, hLn] at hrow2
            have HR2 := Lib.hid hrow2
            have HBZ := Lib.hid hbZ
            clear hrow hrow2 hLL hLn hbZ hbW
            go_wp2_with fail
            refine ⟨by simp, .inl ⟨_, _, rfl, run_takeDeferred hK, ?_⟩⟩
            exact ⟨.tuple #[v, .int .i64 0], by simp [results, Tryz.results7, go_sem], v, by rw [HE0.out], HR2.out, HBZ.out⟩
          case hstop =>
            rintro D c pre W _ _ h _
            exact h.elim
    · have HE := Lib.hid (show advE gs ws = 3 by rw [hE1, if_neg (by rw [hl2]; exact h1)])
      have hni : ¬ (n2 : Int) = (n : Int) := by omega
      clear hl hl2 hcells hcells2 hE1 hpw hn
      go_wp2_with fail
      refine HBF.out.mono ?_
      rintro e w1 ⟨rfl, hb1⟩
      go_wp2_with fail
      exact bodyPostM_ret (v := .tuple #[.slice none 0 0, .int .i64 3]) (by simp [results, Tryz.results7, go_sem]) rfl (AdvS.bad HE.out (by decide) hb1)
  · have HE := Lib.hid (advE_bad (ws := ws) h0)
    obtain ⟨E, hE⟩ : ∃ E, brfE gs = E := ⟨_, rfl⟩
    rw [hE] at HBF h0 HE
    have hxb : (E == 0) = false := by simpa using h0
    clear hE hl hl2 hcells hcells2
    go_wp2_with fail
    refine HBF.out.mono ?_
    rintro e w1 ⟨rfl, hb1⟩
    go_wp2_with fail
    exact bodyPostM_ret (v := .tuple #[.slice none 0 0, .int .i64 E]) (by simp [results, Tryz.results7, go_sem]) rfl (AdvS.bad HE.out h0 hb1)
end Go.Proofs.YtejadhehmcifoaaGreatDoor
