/-
  marathon.Drop by a contract.
-/
import Derived.Test.YtejadhehmcifoaaZDrp1
import Derived.Test.YtejadhehmcifoaaZSlot5
import Derived.Test.YtejadhehmcifoaaZSlot1
import Derived.Test.YtejadhehmcifoaaZLow
import Derived.Deep.DeepCutAuto
import Derived.Deep.RegionHeld3
import Derived.RegionTactic
import Derived.ChangeAlike
import Derived.BigRegion
namespace Go.Proofs.Ytejadhehmcifoaa
open Go Go.RowKit
attribute [local go_sem ↓] Go.wp_at_zero Go.wp_at_succ

theorem info_int3 : (Try.prog.info? 3).map (fun i => (i.zero, i.size, i.bytes)) = some (some (.int .i64 0), 1, 8) := by kernel_rfl
theorem info_str3 : (Try.prog.info? 9).map (fun i => (i.zero, i.size, i.bytes)) = some (some (.string ⟨#[]⟩), 1, 16) := by kernel_rfl
/-- the best choice so far, as it lies in memory -/
def BestL (base : Nat) (xs : List Slt) (n : Nat) (l : List Rsc) (v : Value) (o : Option Nat) : Prop := match o with
  | none => v = .pointer none ∧ l = []
  | some s => ∃ (g : Nat) (A : Option Addr) (c : Nat), v = .pointer (some ⟨g, 0, none⟩) ∧ l = [rBlk g 93 #[.slice A (ixV s n).length c, .int .i64 (lngS xs s n)], rOwn base 3 1 (.slice A (ixV s n).length c) (ixV s n).length ((ixV s n).map (Value.int .i64))]
/-- strings in new memory, and what is wrong -/
def DropS (L : List ByteArray) (E : Int) (w : World) (e : Ending) (w' : World) : Prop :=
  ∃ v, e = .returned (.tuple #[v, .int .i64 E]) ∧ w'.ownsRow w.heap.size 9 1 v L.length (strsV L) ∧ Below w.heap.size w w'
theorem DropS.bad {E : Int} {w w' : World} (h : Below w.heap.size w w') : DropS [] E w (.returned (.tuple #[.slice none 0 0, .int .i64 E])) w' := ⟨_, rfl, World.ownsRow_nil _ _ _ _, h⟩

set_option maxRecDepth 100000 in
set_option maxHeartbeats 4000000 in
theorem drop0_calls (b : Nat) (A : Option Addr) (n c : Nat) (xs : List Slt) (f by_ : Int) (w : World) (hr : Slts w b A n c xs) (hb : b < w.heap.size) (hE : drpE xs f by_ ≠ 0) :
    Calls Try.prog 19 #[.slice A n c, .int .i64 f, .int .i64 by_] w (DropS [] (drpE xs f by_) w) := by
  have hl := (hr.rd.cells sltC_len (by omega)).1
  have HCS := Lib.hid (checkSlots_calls b A n c xs w hr hb)
  obtain ⟨S, hS⟩ : ∃ S, slotsF xs = S := ⟨_, rfl⟩
  obtain ⟨M, hM⟩ : ∃ M, momB f = M := ⟨_, rfl⟩
  obtain ⟨O, hO⟩ : ∃ O, outB by_ f 345686400000 = O := ⟨_, rfl⟩
  obtain ⟨E, hEE⟩ : ∃ E, drpE xs f by_ = E := ⟨_, rfl⟩
  have HE := Lib.hid (show E = if S = 0 then if 16 < n then 2 else if (!M || O) = true then 1 else 0 else S by rw [← hEE]; unfold drpE; rw [hS, hM, hO, hl])
  rw [hS] at HCS
  rw [hEE] at hE ⊢
  have HM := Lib.hid hM
  have HO := Lib.hid hO
  have HNE := Lib.hid hE
  clear hS hM hO hEE hE hl hr
  by_cases h0 : S = 0
  · subst h0
    by_cases h1 : 16 < n
    · have H2 : E = 2 := HE.out.trans (by rw [if_pos rfl, if_pos h1])
      subst H2
      clear HE HM HO HNE
      go_enter Try.func19, Try.ntmps19
      go_wp2_with fail
      refine HCS.out.mono ?_
      rintro e w1 ⟨rfl, hb1⟩
      go_wp2_with fail
      refine bodyPost_ret (v := .tuple #[.slice none 0 0, .int .i64 2]) (by simp [results, Try.results19, go_sem]) rfl (DropS.bad hb1)
    · cases M
      · have H2 : E = 1 := HE.out.trans (by rw [if_pos rfl, if_neg h1]; rfl)
        subst H2
        clear HE HO HNE
        go_enter Try.func19, Try.ntmps19
        go_wp2_with fail
        refine HCS.out.mono ?_
        rintro e w1 ⟨rfl, hb1⟩
        go_wp2_with fail
        refine (moment_calls f _).mono ?_
        rintro e w2 ⟨rfl, rfl⟩
        rw [HM.out]
        go_wp2_with fail
        refine bodyPost_ret (v := .tuple #[.slice none 0 0, .int .i64 1]) (by simp [results, Try.results19, go_sem]) rfl (DropS.bad hb1)
      · cases O
        · exact absurd (show E = 0 from HE.out.trans (by rw [if_pos rfl, if_neg h1]; rfl)) HNE.out
        · have H2 : E = 1 := HE.out.trans (by rw [if_pos rfl, if_neg h1]; rfl)
          subst H2
          clear HE HNE
          go_enter Try.func19, Try.ntmps19
          go_wp2_with fail
          refine HCS.out.mono ?_
          rintro e w1 ⟨rfl, hb1⟩
          go_wp2_with fail
          refine (moment_calls f _).mono ?_
          rintro e w2 ⟨rfl, rfl⟩
          rw [HM.out]
          go_wp2_with fail
          refine (out_calls _ _ _ _).mono ?_
          rintro e w2 ⟨rfl, rfl⟩
          rw [HO.out]
          go_wp2_with fail
          refine bodyPost_ret (v := .tuple #[.slice none 0 0, .int .i64 1]) (by simp [results, Try.results19, go_sem]) rfl (DropS.bad hb1)
  · have H2 : E = S := HE.out.trans (if_neg h0)
    subst H2
    have hx : (E != 0) = true := by rw [bne_iff_ne]; exact h0
    clear HE HM HO HNE
    go_enter Try.func19, Try.ntmps19
    go_wp2_with fail
    refine HCS.out.mono ?_
    rintro e w1 ⟨rfl, hb1⟩
    go_wp2_with fail
    refine bodyPost_ret (v := .tuple #[.slice none 0 0, .int .i64 E]) (by simp [results, Try.results19, go_sem]) rfl (DropS.bad hb1)

set_option maxRecDepth 100000 in
set_option maxHeartbeats 8000000 in
theorem drop1_calls (b : Nat) (A : Option Addr) (n c : Nat) (xs : List Slt) (f by_ : Int) (w : World) (hr : Slts w b A n c xs) (hb : b < w.heap.size) (hE : drpE xs f by_ = 0) :
    Calls Try.prog 19 #[.slice A n c, .int .i64 f, .int .i64 by_] w (DropS (drpL xs f by_) 0 w) := by
  obtain ⟨i0, hi, hz0, hz1, hz2⟩ := info_parts info_int3
  obtain ⟨j0, hj, hy0, hy1, hy2⟩ := info_parts info_str3
  obtain ⟨hl, hnc, hcm, hcells⟩ := hr.rd.cells sltC_len (by omega)
  unfold maxLen at hcm
  have hsml : SmlS xs := hr.sml
  have HCS := Lib.hid (checkSlots_calls b A n c xs w hr hb)
  have hS : slotsF xs = 0 := by
    unfold drpE at hE
    by_cases h : slotsF xs = 0
    · exact h
    · rw [if_neg h] at hE; exact absurd hE h
  have hn16 : n ≤ 16 := by
    unfold drpE at hE
    rw [if_pos hS] at hE
    by_cases h : 16 < xs.length
    · rw [if_pos h] at hE; exact absurd hE (by decide)
    · omega
  have hMO : momB f = true ∧ outB by_ f 345686400000 = false := by
    unfold drpE at hE
    rw [if_pos hS, if_neg (by omega)] at hE
    cases h1 : momB f <;> cases h2 : outB by_ f 345686400000 <;> simp_all
  have hf := (momB_iff f).1 hMO.1
  rw [hS] at HCS
  have HM := Lib.hid hMO.1
  have HO := Lib.hid hMO.2
  obtain ⟨f0, f1⟩ := hf
  have hfy : f ≤ by_ ∧ by_ ≤ 345686400000 := by
    have := hMO.2
    unfold outB at this
    simp at this
    exact this
  obtain ⟨y0, y1⟩ := hfy
  have hL0 : drpL xs f by_ = keysO xs n (bstS xs f by_ n (2 ^ n)) := by unfold drpL; rw [if_pos hE, hl]
  have HL0 := Lib.hid hL0
  have HBD := Lib.hid (fun s k (hk : k ≤ n) => lngS_bd hsml s k (by omega))
  have HAD := Lib.hid (fun s k (hk : k ≤ n) => atS_bd hsml s f k (by omega))
  have HSM := Lib.hid hsml
  have HEX := Lib.hid (bst_ex (xs := xs) (f := f) (by_ := by_) n y0)
  have HL := Lib.hid hl
  have HC := Lib.hid hcells
  obtain ⟨N, hN⟩ : ∃ N, 2 ^ n = N := ⟨_, rfl⟩
  have hN1 : N ≤ 65536 := by rw [← hN]; exact Nat.pow_le_pow_right (by decide) hn16
  have hNw : IntKind.i64.wrap ((2 : Int) ^ n) = (N : Int) := by
    have : ((2 : Int) ^ n) = (N : Int) := by rw [← hN]; simp
    rw [this]
    exact IntWalk.i64_in _ (by omega)
  have HNW := Lib.hid hNw
  rw [hN] at HL0 HEX
  have HS0 : Hid (Sq w w [] ∧ BestL w.heap.size xs n [] (.pointer none) (bstS xs f by_ n 0)) := Lib.hid ⟨Sq.start w, rfl, rfl⟩
  clear hcells hl hr hsml hS hMO hL0 hE hN
  go_enter Try.func19, Try.ntmps19
  go_wp2_with fail
  refine HCS.out.mono ?_
  rintro e w1 ⟨rfl, hb1⟩
  go_wp2_with fail
  refine (moment_calls f _).mono ?_
  rintro e w2 ⟨rfl, rfl⟩
  rw [HM.out]
  go_wp2_with fail
  refine (out_calls _ _ _ _).mono ?_
  rintro e w2 ⟨rfl, rfl⟩
  rw [HO.out]
  go_wp2_with fail
  have hS1 := (Sq.start w).callB hb1
  have HB0 : Hid (BestL w.heap.size xs n [] (.pointer none) (bstS xs f by_ n 0)) := HS0.out.2
  have HI := Lib.hid (fun x y W => cmpInt_calls x y W)
  clear HS0 HCS hb1
  go_loopw [9, 39] (fun v i wr => ∃ (s : Nat) (l : List Rsc), s ≤ N ∧ i = .int .i64 s ∧ Sq w wr l ∧ Hid (BestL w.heap.size xs n l v (bstS xs f by_ n s))) (fun _ i _ => N - (intOf i).toNat)
  case atStart => exact ⟨0, [], Nat.zero_le _, rfl, hS1, HB0⟩
  case round =>
    clear hS1 HB0
    obtain ⟨s, l, hs, rfl, hS, HB⟩ := hrel
    by_cases hlt : s < N
    · have hSa := (hS.add #[.slice none 0 0, .int .i64 0] 93).nil w.heap.size 3 1
      have hSb : Sq w (wr.alloc (.cells #[.slice none 0 0, .int .i64 0] 93)) (rBlk wr.heap.size 93 #[.slice none 0 0, .int .i64 (lngS xs s 0)] :: rOwn w.heap.size 3 1 (.slice none 0 0) (ixV s 0).length ((ixV s 0).map (Value.int .i64)) :: l) := hSa.front 1 rfl rfl
      have HA0 : Hid (Value.int .i64 f = .int .i64 (atS xs s f 0)) := Lib.hid rfl
      have hgx0 := hS.size
      obtain ⟨gx, hgx⟩ : ∃ g, wr.heap.size = g := ⟨_, rfl⟩
      rw [hgx] at hSb hgx0
      clear hS hSa
      go_wp2_with fail
      clear hgx
      go_loopw [12, 47] (fun a i w2 => ∃ (k : Nat) (v : Value), k ≤ n ∧ i = .int .i64 k ∧ a = .int .i64 (atS xs s f k) ∧ Sq w w2 (rBlk gx 93 #[v, .int .i64 (lngS xs s k)] :: rOwn w.heap.size 3 1 v (ixV s k).length ((ixV s k).map (Value.int .i64)) :: l)) (fun _ i _ => n - (intOf i).toNat)
      case atStart => exact ⟨0, _, Nat.zero_le _, rfl, HA0.out, hSb⟩
      case round =>
        clear hSb HA0
        obtain ⟨k, v, hk, rfl, rfl, hS⟩ := hrel
        by_cases hlt2 : k < n
        · have hkr : k < xs.length := by rw [HL.out]; exact hlt2
          obtain ⟨g, o, hA, _, hcs⟩ := HC.out (by omega)
          subst hA
          have c0 := below_cell hS.below (hcs k hkr 0 (by omega))
          have c1 := below_cell hS.below (hcs k hkr 1 (by omega))
          have c2 := below_cell hS.below (hcs k hkr 2 (by omega))
          have c3 := below_cell hS.below (hcs k hkr 3 (by omega))
          have c4 := below_cell hS.below (hcs k hkr 4 (by omega))
          have hls := lngS_step xs s k hkr
          have has := atS_step xs s f k hkr
          have his := ixV_succ s k
          have hxs := HSM.out _ (List.getElem_mem hkr)
          have hb1 := HBD.out s k hk
          have hb2 := HAD.out s k hk
          have hil : (ixV s k).length ≤ 16 := by rw [ixV_len]; exact Nat.le_trans (idxS_len s k) (by omega)
          obtain ⟨x, hx⟩ : ∃ x, xs[k] = x := ⟨_, rfl⟩
          rw [hx] at c0 c1 c2 c3 c4 hls has hxs
          obtain ⟨sk, sw, ha, hc, hh, su, lo⟩ := x
          simp only at hls has hxs
          obtain ⟨⟨u1, u2⟩, u3', u4'⟩ := hxs
          obtain ⟨m, hm⟩ : ∃ m, hh.length = m := ⟨_, rfl⟩
          replace c0 : wr.cell? ⟨g, o + k * 5, none⟩ = some (.string sk) := c0
          replace c1 : wr.cell? ⟨g, o + k * 5 + 1, none⟩ = some (.string sw) := c1
          replace c2 : wr.cell? ⟨g, o + k * 5 + 2, none⟩ = some (.slice ha m hc) := by rw [← hm]; exact c2
          replace c3 : wr.cell? ⟨g, o + k * 5 + 3, none⟩ = some (.int .i64 su) := c3
          replace c4 : wr.cell? ⟨g, o + k * 5 + 4, none⟩ = some (.int .i64 lo) := c4
          have hSx := (hS.add #[.string sk, .string sw, .slice ha m hc, .int .i64 su, .int .i64 lo] 59)
          have hsz := hS.size
          have bg : Blk wr gx 93 #[v, .int .i64 (lngS xs s k)] := hS.nth 0 rfl
          have y0 : wr.cell? ⟨gx, 0, none⟩ = some v := bg.cell 0
          have y1 : wr.cell? ⟨gx, 1, none⟩ = some (.int .i64 (lngS xs s k)) := bg.cell 1
          have lg := bg.lt
          have hs63 : s < 9223372036854775808 := by omega
          have hk0 : (0 : Int) ≤ (k : Int) := by omega
          have hk1 : (k : Int) < (n : Int) := by omega
          obtain ⟨q1, q2⟩ := hb1
          obtain ⟨q3, q4⟩ := hb2
          clear hcs hx bg
          cases hbit : bitS s k
          · have hbv := bit_no hs63 hbit
            have HLS : Hid (lngS xs s (k + 1) = lngS xs s k) := Lib.hid (by rw [hls, hbit]; rfl)
            have HAS : Hid (atS xs s f (k + 1) = atS xs s f k + (su + lo)) := Lib.hid (by rw [has, hbit]; rfl)
            have HIS : Hid (ixV s (k + 1) = ixV s k) := Lib.hid (by rw [his, hbit]; rfl)
            have hS2 := hSx.tail
            rw [← HLS.out, ← HIS.out] at hS2
            have HS2 := Lib.hid hS2
            clear hls has his hbit hS hSx hS2
            obtain ⟨at_, hat⟩ : ∃ a, atS xs s f k = a := ⟨_, rfl⟩
            rw [hat] at q3 q4 HAS ⊢
            clear hat
            go_wp2_with fail
            go_roundw
            case rel => exact ⟨k + 1, v, by omega, by go_num, by rw [HAS.out], HS2.out⟩
            case measure => simp [intOf]; omega
          · have hbv := bit_yes hs63 hbit
            have HLS : Hid (lngS xs s (k + 1) = lngS xs s k + lo) := Lib.hid (by rw [hls, hbit]; rfl)
            have HAS : Hid (atS xs s f (k + 1) = atS xs s f k) := Lib.hid (by rw [has, hbit]; rfl)
            have HIS : Hid (ixV s (k + 1) = ixV s k ++ [(k : Int)]) := Lib.hid (by rw [his, hbit]; rfl)
            have hSy := (hSx.add #[.int .i64 k] 3).front 3 rfl rfl
            obtain ⟨ln, hln⟩ : ∃ z, lngS xs s k = z := ⟨_, rfl⟩
            obtain ⟨iv, hiv⟩ : ∃ z, ixV s k = z := ⟨_, rfl⟩
            have hown : ((wr.alloc (.cells #[.string sk, .string sw, .slice ha m hc, .int .i64 su, .int .i64 lo] 59)).alloc (.cells #[.int .i64 k] 3)).ownsRow w.heap.size 3 1 v (ixV s k).length ((ixV s k).map (Value.int .i64)) := hSy.head
            rw [hiv] at hown hSy HIS hil
            rw [hln] at hSy q1 q2 y1 HLS
            clear hls has his hbit hS hSx hln hiv
            go_wp2_with (first
              | (at_builtin; refine wpList_append_own_at _ rfl (.tmp 61) (.tmp 63) 22 rfl w.heap.size 3 i0 (.int .i64 0) 1 8 Try.underlying22 hi hz0 hz1 hz2 rfl (by decide) v _ _ rfl hown ⟨wr.heap.size + 1, 0, none⟩ 1 1 [.int .i64 k] rfl rfl (World.news_of_block (heap_new2 _ _ _)) (by simp [Value.oneCell']) (by unfold maxLen; omega) (by omega) (by simp; omega) ?_; intro v' w5 hown' hgrow hnil hat; obtain ⟨vA, vc, rfl⟩ := own_form hown'; have hS5 := hSy.append hown' hgrow hat; have bg5 : Blk w5 gx 93 #[v, .int .i64 ln] := hS5.nth 3 rfl; have z0 := bg5.cell 0; have z1 := bg5.cell 1; have f0 := bg5.frozen 0; have f1 := bg5.frozen 1; have bx5 : Blk w5 wr.heap.size 59 #[.string sk, .string sw, .slice ha m hc, .int .i64 su, .int .i64 lo] := hS5.nth 2 rfl; have x4 := bx5.cell 4))
            have hS6 := (((hS5.front 3 rfl rfl).set_ 0 (.slice vA (iv.length + 1) vc)))
            obtain ⟨w6, hw6⟩ : ∃ W, w5.setCell ⟨gx, 0, none⟩ (.slice vA (iv.length + 1) vc) = W := ⟨_, rfl⟩
            rw [hw6] at hS6 ⊢
            clear hS5 z0 z1 f0 f1 bg5 bx5 x4 hw6 hown' hgrow hnil hat hSy hown
            have b6 : Blk w6 gx 93 #[.slice vA (iv.length + 1) vc, .int .i64 ln] := hS6.head
            have z1 := b6.cell 1
            have f1 := b6.frozen 1
            replace z1 : w6.cell? ⟨gx, 1, none⟩ = some (.int .i64 ln) := z1
            have bx6 : Blk w6 wr.heap.size 59 #[.string sk, .string sw, .slice ha m hc, .int .i64 su, .int .i64 lo] := hS6.nth 3 rfl
            have x4 := bx6.cell 4
            replace x4 : w6.cell? ⟨wr.heap.size, 4, none⟩ = some (.int .i64 lo) := x4
            have hS7 := (hS6.set_ 1 (.int .i64 (ln + lo))).drew
            have hne : wr.heap.size ≠ gx := by omega
            clear b6 bx6 hS6
            have HS8 : Hid (Sq w (w6.setCell ⟨gx, 1, none⟩ (.int .i64 (ln + lo))).drew (rBlk gx 93 #[.slice vA (iv.length + 1) vc, .int .i64 (lngS xs s (k + 1))] :: rOwn w.heap.size 3 1 (.slice vA (iv.length + 1) vc) (ixV s (k + 1)).length ((ixV s (k + 1)).map (Value.int .i64)) :: l)) := Lib.hid (by
              have h := (hS7.drop 2 rfl rfl).drop 2 rfl rfl
              rw [HLS.out, HIS.out, List.length_append, List.map_append]
              exact h)
            clear hS7
            go_region
            go_wp2_with fail
            go_roundw
            case rel => exact ⟨k + 1, _, by omega, by go_num, by rw [HAS.out], HS8.out⟩
            case measure => simp [intOf]; omega
        · obtain rfl : k = n := by omega
          have bg : Blk wr gx 93 #[v, .int .i64 (lngS xs s k)] := hS.nth 0 rfl
          have y0 : wr.cell? ⟨gx, 0, none⟩ = some v := bg.cell 0
          have y1 : wr.cell? ⟨gx, 1, none⟩ = some (.int .i64 (lngS xs s k)) := bg.cell 1
          have hb2 := HAD.out s k hk
          obtain ⟨q3, q4⟩ := hb2
          by_cases hby : by_ < atS xs s f k
          · have HB2 : Hid (BestL w.heap.size xs k l u9 (bstS xs f by_ k (s + 1))) := Lib.hid (by rw [bstS, if_pos hby]; exact HB.out)
            have hS2 := hS.tail.tail
            clear hS bg
            go_wp2_with fail
            go_roundw
            case rel => exact ⟨s + 1, l, by omega, by go_num, hS2, HB2⟩
            case measure => simp [intOf]; omega
          · have HNB := Lib.hid hby
            obtain ⟨iA, ic, hv⟩ := own_form (show wr.ownsRow w.heap.size 3 1 v (ixV s k).length ((ixV s k).map (Value.int .i64)) from hS.nth 1 rfl)
            cases ho : bstS xs f by_ k s with
            | none =>
              obtain ⟨hu9, hl0⟩ : u9 = .pointer none ∧ l = [] := by
                have := HB.out
                rw [ho] at this
                exact this
              subst hu9 hl0
              have HB2 : Hid (BestL w.heap.size xs k [rBlk gx 93 #[.slice iA (ixV s k).length ic, .int .i64 (lngS xs s k)], rOwn w.heap.size 3 1 (.slice iA (ixV s k).length ic) (ixV s k).length ((ixV s k).map (Value.int .i64))] (.pointer (some ⟨gx, 0, none⟩)) (bstS xs f by_ k (s + 1))) := Lib.hid (by
                rw [bstS, if_neg hby, ho]
                exact ⟨gx, iA, ic, rfl, rfl⟩)
              subst hv
              have hS2 := hS
              clear hS bg ho HB
              go_wp2_with fail
              go_quiet (fail)
              go_wp2_with fail
              go_roundw
              case rel => exact ⟨s + 1, _, by omega, by go_num, hS2.drewN _, HB2⟩
              case measure => simp [intOf]; omega
            | some q =>
              obtain ⟨g, qA, qc, hu9, hl0⟩ : ∃ (g : Nat) (A : Option Addr) (c : Nat), u9 = .pointer (some ⟨g, 0, none⟩) ∧ l = [rBlk g 93 #[.slice A (ixV q k).length c, .int .i64 (lngS xs q k)], rOwn w.heap.size 3 1 (.slice A (ixV q k).length c) (ixV q k).length ((ixV q k).map (Value.int .i64))] := by
                have := HB.out
                rw [ho] at this
                exact this
              subst hu9 hl0 hv
              have hbx : b < w.heap.size := hb
              obtain ⟨E, hEE⟩ : ∃ E, lesE xs k s q = E := ⟨_, rfl⟩
              obtain ⟨m1, hm1⟩ : ∃ m, (ixV s k).length = m := ⟨_, rfl⟩
              obtain ⟨m2, hm2⟩ : ∃ m, (ixV q k).length = m := ⟨_, rfl⟩
              obtain ⟨n1, hn1⟩ : ∃ z, lngS xs s k = z := ⟨_, rfl⟩
              obtain ⟨n2, hn2⟩ : ∃ z, lngS xs q k = z := ⟨_, rfl⟩
              obtain ⟨C3, hC3⟩ : ∃ C, cmpLI (ixV s k) (ixV q k) = C := ⟨_, rfl⟩
              obtain ⟨C1, hC1⟩ : ∃ C, cmpI (m1 : Int) (m2 : Int) = C := ⟨_, rfl⟩
              obtain ⟨C2, hC2⟩ : ∃ C, cmpI n1 n2 = C := ⟨_, rfl⟩
              have hE3 : firstE [C1, C2, C3] = E := by rw [← hEE]; unfold lesE; rw [hm1, hm2, hn1, hn2, hC1, hC2, hC3]
              have HBB : Hid (E < 0 → BestL w.heap.size xs k [rBlk gx 93 #[.slice iA m1 ic, .int .i64 n1], rOwn w.heap.size 3 1 (.slice iA m1 ic) (ixV s k).length ((ixV s k).map (Value.int .i64))] (.pointer (some ⟨gx, 0, none⟩)) (bstS xs f by_ k (s + 1))) := Lib.hid (fun h => by
                rw [bstS, if_neg hby, ho]
                simp only
                rw [if_pos (by rw [hEE]; exact h), ← hm1, ← hn1]
                exact ⟨gx, iA, ic, rfl, rfl⟩)
              have HBN : Hid (¬ E < 0 → BestL w.heap.size xs k [rBlk g 93 #[.slice qA m2 qc, .int .i64 n2], rOwn w.heap.size 3 1 (.slice qA m2 qc) (ixV q k).length ((ixV q k).map (Value.int .i64))] (.pointer (some ⟨g, 0, none⟩)) (bstS xs f by_ k (s + 1))) := Lib.hid (fun h => by
                rw [bstS, if_neg hby, ho]
                simp only
                rw [if_neg (by rw [hEE]; exact h), ← hm2, ← hn2]
                exact ⟨g, qA, qc, rfl, rfl⟩)
              have HM12 := Lib.hid (And.intro hm1 hm2)
              rw [hm1, hn1] at hS
              rw [hn1] at y1
              rw [hm2, hn2] at hS
              rw [hm1] at y0
              obtain ⟨L1, hL1⟩ : ∃ L, (ixV s k).map (Value.int .i64) = L := ⟨_, rfl⟩
              obtain ⟨L2, hL2⟩ : ∃ L, (ixV q k).map (Value.int .i64) = L := ⟨_, rfl⟩
              have HCL : Hid (∀ l', Sq w wr l' → Calls Try.prog 61 #[.slice iA m1 ic, .slice qA m2 qc] wr.drew fun e w' => e = .returned (.int .i64 C3) ∧ wr.drew = w') := Lib.hid (fun _ _ => by
                have r1 := Rd.own (b := b) (show wr.ownsRow w.heap.size 3 1 (.slice iA m1 ic) m1 ((ixV s k).map (Value.int .i64)) from hS.nth 1 rfl) hb
                have r2 := Rd.own (b := b) (show wr.ownsRow w.heap.size 3 1 (.slice qA m2 qc) m2 ((ixV q k).map (Value.int .i64)) from hS.nth 3 rfl) hb
                have := compareI_calls b iA qA m1 ic m2 qc (ixV s k) (ixV q k) wr.drew (r1.below (below_drewN (Below.refl _ _) 1)) (r2.below (below_drewN (Below.refl _ _) 1))
                rw [hC3] at this
                exact this)
              have HOR : Hid (Calls Try.prog 59 #[.slice (some ⟨wr.heap.size, 0, none⟩) 3 3] (wr.alloc (.cells #[.int .i64 C1, .int .i64 C2, .int .i64 C3] 3)).drew (QRet (.int .i64 E) (wr.alloc (.cells #[.int .i64 C1, .int .i64 C2, .int .i64 C3] 3)).drew)) := Lib.hid (by
                have hr : Rd (wr.alloc (.cells #[.int .i64 C1, .int .i64 C2, .int .i64 C3] 3)) (wr.heap.size + 5) 1 (.slice (some ⟨wr.heap.size, 0, none⟩) 3 3) 3 ([C1, C2, C3].map (Value.int .i64)) := Rd.lit wr _ 1 3 #[.int .i64 C1, .int .i64 C2, .int .i64 C3] _ (by omega) (by decide) rfl
                have := orN_calls (wr.heap.size + 5) _ 3 3 [C1, C2, C3] _ (hr.below (below_drewN (Below.refl _ _) 1))
                rw [hE3] at this
                exact this)
              have HC1 : Hid (∀ W, Calls Try.prog 60 #[.int .i64 (m1 : Int), .int .i64 (m2 : Int)] W fun e w' => e = .returned (.int .i64 C1) ∧ W = w') := Lib.hid (fun W => by
                have := HI.out (m1 : Int) (m2 : Int) W
                rw [hC1] at this
                exact this)
              have HC2 : Hid (∀ W, Calls Try.prog 60 #[.int .i64 n1, .int .i64 n2] W fun e w' => e = .returned (.int .i64 C2) ∧ W = w') := Lib.hid (fun W => by
                have := HI.out n1 n2 W
                rw [hC2] at this
                exact this)
              have HCLL := Lib.hid (HCL.out _ hS)
              have bq : Blk wr g 93 #[.slice qA m2 qc, .int .i64 n2] := hS.nth 2 rfl
              have z0 : wr.cell? ⟨g, 0, none⟩ = some (.slice qA m2 qc) := bq.cell 0
              have z1 : wr.cell? ⟨g, 1, none⟩ = some (.int .i64 n2) := bq.cell 1
              have HCELL : Hid (∀ W, Sq w W [rBlk gx 93 #[.slice iA m1 ic, .int .i64 n1], rOwn w.heap.size 3 1 (.slice iA m1 ic) m1 ((ixV s k).map (Value.int .i64)), rBlk g 93 #[.slice qA m2 qc, .int .i64 n2], rOwn w.heap.size 3 1 (.slice qA m2 qc) m2 ((ixV q k).map (Value.int .i64))] → W.cell? ⟨gx, 0, none⟩ = some (.slice iA m1 ic) ∧ W.cell? ⟨gx, 1, none⟩ = some (.int .i64 n1) ∧ W.cell? ⟨g, 0, none⟩ = some (.slice qA m2 qc) ∧ W.cell? ⟨g, 1, none⟩ = some (.int .i64 n2)) := Lib.hid (fun W h => by
                have h1 : Blk W gx 93 #[.slice iA m1 ic, .int .i64 n1] := h.nth 0 rfl
                have h2 : Blk W g 93 #[.slice qA m2 qc, .int .i64 n2] := h.nth 2 rfl
                exact ⟨h1.cell 0, h1.cell 1, h2.cell 0, h2.cell 1⟩)
              have HSS := Lib.hid hS
              have hd := hS.drew
              have hda := (hS.alloc (.cells #[.int .i64 C1, .int .i64 C2, .int .i64 C3] 3)).drew
              have hNE := Lib.hid hby
              clear bg bq ho HB hEE hC1 hC2 hC3 hE3 hm1 hm2 hn1 hn2 hL1 hL2 HCL hS
              go_upto_region 23 with (fail)
              go_cut [122] (fun s122 W => s122 = .bool (decide (E < 0)) ∧ Sq w W [rBlk gx 93 #[.slice iA m1 ic, .int .i64 n1], rOwn w.heap.size 3 1 (.slice iA m1 ic) m1 ((ixV s k).map (Value.int .i64)), rBlk g 93 #[.slice qA m2 qc, .int .i64 n2], rOwn w.heap.size 3 1 (.slice qA m2 qc) m2 ((ixV q k).map (Value.int .i64))])
              case first =>
                go_region_held3 (fun W => W.cell? ⟨gx, 0, none⟩ = some (.slice iA m1 ic) ∧ W.cell? ⟨gx, 1, none⟩ = some (.int .i64 n1) ∧ W.cell? ⟨g, 0, none⟩ = some (.slice qA m2 qc) ∧ W.cell? ⟨g, 1, none⟩ = some (.int .i64 n2))
                  (first | (with_reducible exact HCELL.out _ hd) | (with_reducible exact HCELL.out _ hda) | (with_reducible exact HCELL.out _ (hda.drewN _)) | go_keep)
                  (first
                    | (go_at_call 60; ((with_reducible refine (HC1.out _).mono ?_); rintro e w4 ⟨rfl, rfl⟩))
                    | (go_at_call 60; ((with_reducible refine (HC2.out _).mono ?_); rintro e w4 ⟨rfl, rfl⟩))
                    | (go_at_call 61; ((with_reducible refine HCLL.out.mono ?_); rintro e w5 ⟨rfl, rfl⟩))
                    | (go_at_call 59; ((with_reducible refine HOR.out.mono ?_); rintro e w6 ⟨rfl, nq, rfl⟩)))
                all_goals
                  have hfin := (HSS.out.alloc (.cells #[.int .i64 C1, .int .i64 C2, .int .i64 C3] 3)).drewN (1 + nq)
                  go_wp2_with fail
                  go_meet
                  exact ⟨rfl, hfin⟩
              case rest =>
                obtain ⟨rfl, hS3⟩ := hcut
                clear hd hda HCLL HOR HC1 HC2 HCELL HSS z0 z1 y0 y1
                by_cases hlE : E < 0
                · have hB2 := HBB.out hlE
                  have HB2 := Lib.hid hB2
                  have hS4 : Sq w _ [rBlk gx 93 #[.slice iA m1 ic, .int .i64 n1], rOwn w.heap.size 3 1 (.slice iA m1 ic) m1 ((ixV s k).map (Value.int .i64))] := (hS3.drop 2 rfl rfl).drop 2 rfl rfl
                  have HML := Lib.hid (show m1 = (ixV s k).length from HM12.out.1.symm)
                  have HS4 := Lib.hid hS4
                  clear hS3 hB2 hS4
                  go_wp2_with fail
                  go_roundw
                  case rel => exact ⟨s + 1, _, by omega, by go_num, by rw [← HML.out]; exact HS4.out, HB2⟩
                  case measure => simp [intOf]; omega
                · have hB2 := HBN.out hlE
                  have HB2 := Lib.hid hB2
                  have HML := Lib.hid (show m2 = (ixV q k).length from HM12.out.2.symm)
                  have HS4 := Lib.hid hS3.tail.tail
                  clear hS3 hB2
                  go_wp2_with fail
                  go_roundw
                  case rel => exact ⟨s + 1, _, by omega, by go_num, by rw [← HML.out]; exact HS4.out, HB2⟩
                  case measure => simp [intOf]; omega
    · obtain rfl : s = N := by omega
      obtain ⟨q, hq⟩ := HEX.out
      obtain ⟨g, qA, qc, hu9, hl0⟩ : ∃ (g : Nat) (A : Option Addr) (c : Nat), u9 = .pointer (some ⟨g, 0, none⟩) ∧ l = [rBlk g 93 #[.slice A (ixV q n).length c, .int .i64 (lngS xs q n)], rOwn w.heap.size 3 1 (.slice A (ixV q n).length c) (ixV q n).length ((ixV q n).map (Value.int .i64))] := by
        have := HB.out
        rw [hq] at this
        exact this
      subst hu9 hl0
      have HK := Lib.hid (show drpL xs f by_ = keysS xs (idxS q n) by rw [HL0.out, hq]; rfl)
      have HQ := Lib.hid hq
      clear hq HB
      have bq : Blk wr g 93 #[.slice qA (ixV q n).length qc, .int .i64 (lngS xs q n)] := hS.nth 0 rfl
      have z0 : wr.cell? ⟨g, 0, none⟩ = some (.slice qA (ixV q n).length qc) := bq.cell 0
      have hml : (ixV q n).length ≤ 16 := by rw [ixV_len]; exact Nat.le_trans (idxS_len q n) (by omega)
      obtain ⟨m, hm⟩ : ∃ m, (ixV q n).length = m := ⟨_, rfl⟩
      have HM2 := Lib.hid hm
      rw [hm] at hS z0 hml
      have hS1 := hS.nil w.heap.size 9 1
      clear bq hS hm
      go_wp2_with fail
      go_loopw [15, 130] (fun v i w2 => ∃ (k : Nat) (acc : List ByteArray), k ≤ m ∧ i = .int .i64 k ∧ acc.length = k ∧ Hid (keysS xs ((idxS q n).take k) = acc) ∧ Sq w w2 [rOwn w.heap.size 9 1 v acc.length (strsV acc), rBlk g 93 #[.slice qA m qc, .int .i64 (lngS xs q n)], rOwn w.heap.size 3 1 (.slice qA m qc) m ((ixV q n).map (Value.int .i64))]) (fun _ i _ => m - (intOf i).toNat)
      case atStart => exact ⟨0, [], Nat.zero_le _, rfl, rfl, Lib.hid rfl, hS1⟩
      case round =>
        clear hS1 z0
        obtain ⟨k, acc, hk, rfl, hac, HKA, hS⟩ := hrel
        by_cases hlt3 : k < m
        · have hki : k < (idxS q n).length := by rw [← ixV_len, HM2.out]; exact hlt3
          obtain ⟨i, hiq⟩ : ∃ i, (idxS q n)[k] = i := ⟨_, rfl⟩
          have hin : i < n := (idxS_lt (hiq ▸ List.getElem_mem hki)).1
          have hir : i < xs.length := by rw [HL.out]; exact hin
          have r2 := Rd.own (b := b) (show wr.ownsRow w.heap.size 3 1 (.slice qA m qc) m ((ixV q n).map (Value.int .i64)) from hS.nth 2 rfl) hb
          obtain ⟨A', c', e1, _, _, _, _, e6⟩ := r2
          injection e1 with ea eb ec
          subst ea ec
          obtain ⟨gi, oi, hA1, _, hci⟩ := e6 (by omega)
          subst hA1
          have ci := hci k (.int .i64 i) (by rw [List.getElem?_map, ixV, List.getElem?_map, List.getElem?_eq_getElem hki, hiq]; rfl)
          obtain ⟨gs, os, hA2, _, hcs⟩ := HC.out (by omega)
          subst hA2
          have c0 := below_cell hS.below (hcs i hir 0 (by omega))
          have hstep : keysS xs ((idxS q n).take (k + 1)) = acc ++ [xs[i].key] := by
            rw [← HKA.out, List.take_add_one, List.getElem?_eq_getElem hki, hiq]
            simp [keysS, List.getElem?_eq_getElem hir]
          obtain ⟨x, hx⟩ : ∃ x, xs[i].key = x := ⟨_, rfl⟩
          replace c0 : wr.cell? ⟨gs, os + i * 5, none⟩ = some (.string x) := by rw [← hx]; exact c0
          rw [hx] at hstep
          have HST := Lib.hid hstep
          have hi0 : (0 : Int) ≤ (i : Int) := by omega
          have hi1 : (i : Int) < (n : Int) := by omega
          have hown : wr.ownsRow w.heap.size 9 1 u15 acc.length (strsV acc) := hS.head
          have hsz := hS.size
          have hgrowW := hS.add #[.string x] 9
          have hacl : acc.length < 16 := by omega
          clear hcs hci hx hstep e6 hiq
          go_wp2_with (first
            | (at_builtin; refine wpList_append_own_at _ rfl _ _ 26 rfl w.heap.size 9 j0 (.string ⟨#[]⟩) 1 16 Try.underlying26 hj hy0 hy1 hy2 rfl (by decide) _ _ _ rfl (hown.alloc _) ⟨wr.heap.size, 0, none⟩ 1 1 [.string x] rfl rfl (World.news_of_block (heap_alloc_new _ _)) (one1 rfl) (by unfold maxLen; omega) (by omega) (by simp; omega) ?_; intro v' w8 hown' hgrow _ hblk; have hS8 := (hS.alloc (.cells #[.string x] 9)).append hown' hgrow hblk; clear hown' hgrow hblk))
          go_roundw
          case rel => exact ⟨k + 1, acc ++ [x], by omega, by go_num, by simp [hac], HST, by rw [List.length_append, strsV, List.map_append]; exact hS8⟩
          case measure => simp [intOf]; omega
        · obtain rfl : k = m := by omega
          have HFIN := Lib.hid (show acc = keysS xs (idxS q n) from HKA.out.symm.trans (by rw [List.take_of_length_le (by rw [← ixV_len, HM2.out]; exact Nat.le_refl _)]))
          have hS9 := hS
          clear hS
          go_wp2_with fail
          refine bodyPost_ret (by simp [results, Try.results19, go_sem]; rfl) rfl ⟨_, rfl, by rw [HK.out, ← HFIN.out]; exact hS9.head, hS9.below⟩
end Go.Proofs.Ytejadhehmcifoaa
