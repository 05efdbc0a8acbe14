/-
  Bracket of the program by one contract: a range over slices.Chunk.
-/
import Derived.Test.YtejadhehmcifoaaGreatDoorZBrkR
namespace Go.Proofs.YtejadhehmcifoaaGreatDoor
open Go Go.RowKit Go.Shelf
attribute [local go_sem] Oper.semAt_some

theorem run_store_fn {P : Program} (w : World) (a : Addr) (m : Mode) (f : Fn) (ts lb : Array Value) : (store a (.func f ts lb) m).run P w = stored P w a (.func f ts lb) m := run_store P w a _ m rfl
attribute [local go_sem] run_store_fn
theorem bodyPostM_ret {F : Fence} {n : Nat} {P : Program} {fn : Func} {R : Ending → World → Prop} {a : Act} {w : World} {v : Value} (hr : (results fn a.tmps).run P w = .ok v w) (hd : a.defers = []) (hR : R (.returned v) w) : bodyPostM F n P fn R .ret a w := by
  show LeavesInM F n P fn a.tmps R a.defers .returning w
  rw [hd]
  exact ⟨v, hr, hR⟩
/-- what Bracket answers -/
def brkA (who : List ByteArray) : List (ByteArray × ByteArray) := if brkE who = 0 then brkL who else []
def BrkS (who : List ByteArray) (w : World) (e : Ending) (w' : World) : Prop :=
  ∃ v, e = .returned (.tuple #[v, .int .i64 (brkE who)]) ∧ w'.ownsRow w.heap.size 32 2 v (brkA who).length ((brkA who).flatMap gmC) ∧ Below w.heap.size w w'
theorem BrkS.bad {who : List ByteArray} {w w' : World} {E : Int} (hE : brkE who = E) (h0 : E ≠ 0) (h : Below w.heap.size w w') : BrkS who w (.returned (.tuple #[.slice none 0 0, .int .i64 E])) w' := by
  refine ⟨_, by rw [hE], ?_, h⟩
  unfold brkA
  rw [if_neg (by rw [hE]; exact h0)]
  exact World.ownsRow_nil _ _ _ _

theorem ownFrom_bx {β : Type} {B Bo : Nat} {W0 : World} (hB : B ≤ W0.heap.size) : OwnFrom B (fun (_ : β) W => Bx B Bo W0 W) := fun _ _ _ _ hs hg hr => hs.grown hg hB (fun k e => .inr (hr k e).1)
/-- the game at a place -/
def gmAt (who : List ByteArray) (P : List Int) (j : Nat) : ByteArray × ByteArray := (whoF who ((P[2 * j]?).getD 0), whoF who ((P[2 * j + 1]?).getD 0))
theorem twos_gm (who : List ByteArray) (P : List Int) (t : Nat) (hP : P.length = 2 * t) : (List.finRange t).map (fun x => gmAt who P x.1) = twos (whoF who) P := by
  have h : ∀ k, k ≤ t → (List.range k).map (gmAt who P) = twos (whoF who) (P.take (2 * k)) := fun k => by
    induction k with
    | zero => intro _; simp [twos]
    | succ k ih =>
      intro hk
      have h0 : 2 * k < P.length := by omega
      have h1 : 2 * k + 1 < P.length := by omega
      rw [List.range_succ, List.map_append, ih (by omega), twos_take (whoF who) P k P[2 * k] P[2 * k + 1] (List.getElem?_eq_getElem h0) (List.getElem?_eq_getElem h1)]
      simp [gmAt, List.getElem?_eq_getElem h0, List.getElem?_eq_getElem h1]
  have h2 := h t (Nat.le_refl _)
  rw [List.take_of_length_le (by omega)] at h2
  rw [← h2]
  apply List.ext_getElem
  · simp
  · intro i h1 h2
    simp

set_option maxRecDepth 100000 in
set_option maxHeartbeats 4000000 in
theorem bracket_calls (b : Nat) (A : Option Addr) (n c : Nat) (who : List ByteArray) (w : World) (hr : Rd w b 1 (.slice A n c) n (strsV who)) (hk : ∀ s ∈ who, s.size ≤ 1000) (hb : b < w.heap.size) :
    Calls Tryz.prog 6 #[.slice A n c] w (BrkS who w) := by
  obtain ⟨hl, hnc, hcm, hcells⟩ := strs_cells hr
  unfold maxLen at hcm
  have hW1 : Below w.heap.size w (w.alloc (.cells #[.slice A n c] 26)) := (Below.refl _ _).alloc (Nat.le_refl _) _
  have hK1 : Blk (w.alloc (.cells #[.slice A n c] 26)) w.heap.size 26 #[.slice A n c] := heap_alloc_new _ _
  have HL := Lib.hid hl
  have HC := Lib.hid hcells
  have HR := Lib.hid hr
  refine (callsIn_wide (n := 3)).1 (callsIn_of_wp_marks Tryz.func6 rfl trivial ?_ rfl)
  simp only [Tryz.ntmps6, List.size_toArray, List.length_cons, List.length_nil, Nat.reduceAdd, Nat.reduceSub, Array.replicate_succ, Array.replicate_zero, List.push_toArray, List.append_toArray, List.nil_append, List.cons_append]
  refine (wpIn_wide (n := 3)).2 ?_
  by_cases h1 : 128 < n
  · have HF := Lib.hid (show brkE who = 2 by unfold brkE; rw [if_pos (by omega)])
    clear hl hcells hr hK1
    go_wp2_with fail
    exact bodyPostM_ret (v := .tuple #[.slice none 0 0, .int .i64 2]) (by simp [results, Tryz.results6, go_sem]) rfl (BrkS.bad HF.out (by decide) hW1)
  by_cases h2 : n < 2
  · have HF := Lib.hid (show brkE who = 8 by unfold brkE; rw [if_neg (by omega), if_pos (by omega)])
    clear hl hcells hr hK1
    go_wp2_with fail
    exact bodyPostM_ret (v := .tuple #[.slice none 0 0, .int .i64 8]) (by simp [results, Tryz.results6, go_sem]) rfl (BrkS.bad HF.out (by decide) hW1)
  have HF := Lib.hid (show brkE who = brkG who (who.length - 0) by unfold brkE; rw [if_neg (by omega), if_neg (by omega)]; rfl)
  clear hl hcells hr
  go_wp2_with fail
  go_loopw [20] (fun i wr => ∃ k : Nat, k ≤ n ∧ i = .int .i64 k ∧ Hid (brkE who = brkG who (who.length - k)) ∧ Below w.heap.size w wr ∧ Blk wr w.heap.size 26 #[.slice A n c]) (fun i _ => n - (intOf i).toNat)
  case atStart => exact ⟨0, Nat.zero_le _, rfl, HF, hW1, hK1⟩
  case round =>
    clear HF hW1 hK1
    obtain ⟨k, hk', rfl, HF, hbr, hBk⟩ := hrel
    have c0 : wr.cell? ⟨w.heap.size, 0, none⟩ = some (.slice A n c) := hBk.cell 0
    by_cases hlt : k < n
    · obtain ⟨g, o, hA, hgb, hcs⟩ := HC.out (by omega)
      subst hA
      have hkr : k < who.length := by rw [HL.out]; exact hlt
      have d0 := below_cell hbr (hcs k hkr)
      have hst := HF.out.trans (brkG_step who k hkr)
      have hs1 := hk _ (List.getElem_mem hkr)
      obtain ⟨s, hs⟩ : ∃ s, who[k] = s := ⟨_, rfl⟩
      rw [hs] at d0 hst hs1
      have HK := Lib.hid (key_calls s wr (by unfold maxLen; omega))
      have HT := Lib.hid (containsS_calls b _ k c (who.take k) s wr (strs_takeB (HR.out.below hbr) (by omega)))
      obtain ⟨B, hB⟩ : ∃ B, keyB s.data.toList = B := ⟨_, rfl⟩
      obtain ⟨M, hM⟩ : ∃ M, memS (who.take k) s = M := ⟨_, rfl⟩
      rw [hB] at HK hst
      rw [hM] at HT hst
      have hk0 : (0 : Int) ≤ (k : Int) := by omega
      have hk1 : (k : Int) < (n : Int) := by omega
      have hkc : k ≤ c := by omega
      clear hcs hs hB hM
      cases B
      · have HST := Lib.hid (hst.trans (if_pos rfl))
        clear hst
        go_wp2_with fail
        refine HK.out.mono ?_
        rintro e w2 ⟨rfl, rfl⟩
        go_wp2_with fail
        exact bodyPostM_ret (v := .tuple #[.slice none 0 0, .int .i64 5]) (by simp [results, Tryz.results6, go_sem]) rfl (BrkS.bad HST.out (by decide) hbr)
      · have hst2 := hst.trans (if_neg (by decide))
        cases M
        · have HST := Lib.hid (hst2.trans (if_neg (by decide)))
          clear hst hst2
          go_wp2_with fail
          refine HK.out.mono ?_
          rintro e w2 ⟨rfl, rfl⟩
          go_wp2_with fail
          refine HT.out.mono ?_
          rintro e w3 ⟨rfl, nq, rfl⟩
          go_wp2_with fail
          go_roundw
          case rel => exact ⟨k + 1, by omega, by go_num, HST, below_drewN hbr nq, hBk⟩
          case measure => simp [intOf]; omega
        · have HST := Lib.hid (hst2.trans (if_pos rfl))
          clear hst hst2
          go_wp2_with fail
          refine HK.out.mono ?_
          rintro e w2 ⟨rfl, rfl⟩
          go_wp2_with fail
          refine HT.out.mono ?_
          rintro e w3 ⟨rfl, nq, rfl⟩
          go_wp2_with fail
          exact bodyPostM_ret (v := .tuple #[.slice none 0 0, .int .i64 6]) (by simp [results, Tryz.results6, go_sem]) rfl (BrkS.bad HST.out (by decide) (below_drewN hbr nq))
    · obtain rfl : k = n := by omega
      have HE := Lib.hid (show brkE who = 0 by rw [HF.out, HL.out, Nat.sub_self]; rfl)
      clear HF
      go_wp2_with fail
      go_loopw [6] (fun v wr => ∃ (q : Nat), q ≤ 7 ∧ Hid (upP k 8 0 = upP k (8 - q) q) ∧ v = .int .i64 ((2 ^ q : Nat) : Int) ∧ Below w.heap.size w wr ∧ Blk wr w.heap.size 26 #[.slice A k c]) (fun v _ => k - (intOf v).toNat)
      case atStart => exact ⟨0, by omega, Lib.hid rfl, rfl, hbr, hBk⟩
      case round =>
        clear hbr hBk c0
        obtain ⟨q, hq7, HU, rfl, hbr, hBk⟩ := hrel
        have c0 : wr.cell? ⟨w.heap.size, 0, none⟩ = some (.slice A k c) := hBk.cell 0
        have HUS := Lib.hid (HU.out.trans (upP_step k q hq7))
        obtain ⟨m, hm⟩ : ∃ m : Nat, 2 ^ q = m := ⟨_, rfl⟩
        have hm1 : 1 ≤ m := by rw [← hm]; exact Nat.one_le_two_pow
        have hm2 : m ≤ 128 := by rw [← hm]; exact Nat.le_trans (Nat.pow_le_pow_right (by decide) hq7) (by decide)
        have HM := Lib.hid hm
        rw [hm] at HUS ⊢
        have hpw : 2 ^ (q + 1) = m * 2 := by rw [Nat.pow_succ]; omega
        have HPW := Lib.hid hpw
        clear hm hpw HU
        by_cases hlt2 : m < k
        · have HST := Lib.hid (HUS.out.trans (if_neg (by omega)))
          have hq6 : q ≤ 6 := by
            have h1 := HM.out
            by_cases h7 : q = 7
            · subst h7
              have : (2 : Nat) ^ 7 = 128 := by decide
              omega
            · omega
          have hcn : (m : Int) < (k : Int) := by omega
          clear HUS
          go_wp2_with fail
          go_roundw
          case rel => exact ⟨q + 1, by omega, HST, by rw [HPW.out]; go_num, hbr, hBk⟩
          case measure => simp [intOf]; omega
        · have HST := Lib.hid (HUS.out.trans (if_pos (by omega)))
          clear HUS
          have hcn : ¬ (m : Int) < (k : Int) := by omega
          have HP := Lib.hid (fun W => places_calls q W hq7)
          rw [HM.out] at HP
          have hS0 : Sq wr ((wr.alloc (.cells #[.func (.func 18) #[] #[.pointer (some ⟨w.heap.size, 0, none⟩)]] 52)).alloc (.cells #[.slice none 0 0] 28)) [rBlk (wr.heap.size + 1) 28 #[.slice none 0 0], rBlk wr.heap.size 52 #[.func (.func 18) #[] #[.pointer (some ⟨w.heap.size, 0, none⟩)]]] := by
            have h1 := ((Sq.start wr).add #[.func (.func 18) #[] #[.pointer (some ⟨w.heap.size, 0, none⟩)]] 52).add #[.slice none 0 0] 28
            rw [World.size_alloc] at h1
            exact h1
          go_wp2_with fail
          obtain ⟨W2, hW2⟩ : ∃ W2, (wr.alloc (.cells #[.func (.func 18) #[] #[.pointer (some ⟨w.heap.size, 0, none⟩)]] 52)).alloc (.cells #[.slice none 0 0] 28) = W2 := ⟨_, rfl⟩
          rw [hW2] at hS0 ⊢
          clear hW2
          refine (HP.out _).mono ?_
          rintro e w5 ⟨v5, rfl, ho5, hb5⟩
          obtain ⟨A5, c5, hv⟩ := own_form ho5
          subst hv
          have hS5 := hS0.ownB hb5 ho5
          go_wp2_with fail
          refine (chunkI_calls A5 m c5 w5).mono ?_
          rintro e w6 ⟨rfl, rfl⟩
          go_wp2_with fail
          obtain ⟨t, ht⟩ : ∃ t, 2 * t = m := by
            have h1 := HM.out
            cases q with
            | zero => simp at h1; omega
            | succ q => exact ⟨2 ^ q, by rw [← h1, Nat.pow_succ]; omega⟩
          have hplen := plP_len q
          have hbd := plP_bd q
          rw [HM.out] at hplen hbd
          have HB := Lib.hid (show brkL who = twos (whoF who) (plP q) by unfold brkL; rw [HL.out, HST.out])
          obtain ⟨P, hP⟩ : ∃ P, plP q = P := ⟨_, rfl⟩
          rw [hP] at hplen hbd HB hS5 ho5
          have hS6 := (hS5.add #[.slice A5 m c5] 22).add #[.int .i64 2] 3
          rw [World.size_alloc] at hS6
          have hsz6 : ((w5.alloc (.cells #[.slice A5 m c5] 22)).alloc (.cells #[.int .i64 2] 3)).heap.size = w5.heap.size + 1 + 1 := by simp
          have hsz5 := hS5.below.size
          have hsz2 : W2.heap.size ≤ w5.heap.size := hb5.size
          have hszr : wr.heap.size + 1 < W2.heap.size := (show Blk W2 (wr.heap.size + 1) 28 #[.slice none 0 0] from hS0.head).lt
          obtain ⟨g5, cap5, hv5, hg5, _⟩ := ho5.form (by omega)
          injection hv5 with hA5 _ hc5
          subst hA5 hc5
          obtain ⟨W6, hW6⟩ : ∃ W6, (w5.alloc (.cells #[.slice (some ⟨g5, 0, none⟩) m c5] 22)).alloc (.cells #[.int .i64 2] 3) = W6 := ⟨_, rfl⟩
          rw [hW6] at hS6 hsz6 ⊢
          have k0 : W6.cell? ⟨w5.heap.size, 0, none⟩ = some (.slice (some ⟨g5, 0, none⟩) m c5) := (show Blk W6 w5.heap.size 22 _ from hS6.nth 1 rfl).cell 0
          have k1 : W6.cell? ⟨w5.heap.size + 1, 0, none⟩ = some (.int .i64 2) := (show Blk W6 (w5.heap.size + 1) 3 _ from hS6.nth 0 rfl).cell 0
          have hbo : Boxed W6 (wr.heap.size + 1) 28 (.slice none 0 0) := (show Blk W6 (wr.heap.size + 1) 28 #[.slice none 0 0] from hS6.nth 3 rfl)
          have hcap5 := (own_cap ho5)
          unfold maxLen at hcap5
          have hST := chunkI_stops 2 (by omega) w5.heap.size (w5.heap.size + 1) W6.heap.size (wr.heap.size + 1) g5 0 t m c5 ht (by omega) (by omega) (by omega) (by omega) (by omega) hcap5.1 (by omega) W6 (Nat.le_refl _) k0 k1
          refine (wpIn_wide (n := 3)).1 ?_
          -- TAIL (gen_brk3.py)
          have HPL := Lib.hid hplen
          have HBD := Lib.hid hbd
          have HS6 := Lib.hid hS6
          have HBK := Lib.hid (hBk.below hS6.below)
          have HCW := Lib.hid (below_call hbr hS6.below (Nat.le_refl _))
          refine wpIn_rangeFunc_ownG (by rfl) (by omega) (encs := fun x : Fin t => #[Value.slice (some ⟨g5, 0 + 2 * x.1, none⟩) 2 2]) (Kp := Bx W6.heap.size (wr.heap.size + 1)) (gf := 43) (lb := #[.pointer (some ⟨w5.heap.size, 0, none⟩), .pointer (some ⟨w5.heap.size + 1, 0, none⟩)]) (by rfl) trivial (enters_of Tryz.func43 (by kernel_rfl) rfl)
            hST (fun h k => bxK_t h k) (bxK_b (n := W6.heap.size) (Bo := wr.heap.size + 1) (w := W6) (Nat.le_refl _)) (Below.refl _ _) (fun _ => rfl)
            (fun (pre : List (Fin t)) W => (∃ v, Boxed W (wr.heap.size + 1) 28 v ∧ W.ownsRow W6.heap.size 32 2 v pre.length ((pre.map (fun x => gmAt who P x.1)).flatMap gmC) ∧ True) ∧ Bx W6.heap.size (wr.heap.size + 1) W6 W)
            (fun _ _ _ => False)
            (OwnFrom.and (Own.from (holdsRow_own W6.heap.size (wr.heap.size + 1) 28 32 2 (fun (pre : List (Fin t)) => pre.length) (fun (pre : List (Fin t)) => (pre.map (fun x => gmAt who P x.1)).flatMap gmC) (fun _ _ => True)) _) (ownFrom_bx (Nat.le_refl _)))
            (fun _ _ _ _ _ hs _ _ => hs)
            ⟨⟨_, hbo, World.ownsRow_nil _ _ _ _, trivial⟩, Bx.refl _ _ _⟩
            (fun x => { tmps := #[.slice A k c, .pointer (some ⟨w.heap.size, 0, none⟩), u2, u3, u4, u5, .int .i64 (m : Int), .pointer (some ⟨wr.heap.size, 0, none⟩), .pointer (some ⟨wr.heap.size + 1, 0, none⟩), .slice (some ⟨g5, 2 * x.1, none⟩) 2 2, .bool (decide (128 < (k : Int))), .slice A k c, .int .i64 (k : Int), .bool (decide (128 < (k : Int))), .bool (decide ((k : Int) < 2)), .slice A k c, .int .i64 (k : Int), .bool (decide ((k : Int) < 2)), .slice A k c, .int .i64 (k : Int), .int .i64 (k : Int), .bool false, u22, u23, u24, u25, u26, u27, u28, u29, u30, u31, u32, u33, .int .i64 (m : Int), .slice A k c, .int .i64 (k : Int), .bool false, u38, u39, .func (.func 18) #[] #[.pointer (some ⟨w.heap.size, 0, none⟩)], .int .i64 (m : Int), .slice (some ⟨g5, 0, none⟩) m c5, .func (.func 43) #[] #[.pointer (some ⟨w5.heap.size, 0, none⟩), .pointer (some ⟨w5.heap.size + 1, 0, none⟩)], .slice (some ⟨g5, 2 * x.1, none⟩) 2 2, undef, undef, undef, undef, undef, undef, undef, undef, undef, undef, undef, undef, undef, undef, undef], defers := [] }) ?hassign ?hbody ?hdone ?hstop
          case hassign =>
            intro l x W K hK
            gi_wp2
            exact hK
          case hbody =>
            rintro l pre x W ⟨⟨v, hv, hrow, _⟩, hB⟩ hlt
            refine wpIn_block ?_
            refine wpIn_region_any rfl ?_
            have hxt := x.2
            have hx0 : 2 * x.1 < P.length := by rw [HPL.out]; omega
            have hx1 : 2 * x.1 + 1 < P.length := by rw [HPL.out]; omega
            have hg : gmAt who P x.1 = (whoF who P[2 * x.1], whoF who P[2 * x.1 + 1]) := by unfold gmAt; rw [List.getElem?_eq_getElem hx0, List.getElem?_eq_getElem hx1]; rfl
            have q0 := HBD.out _ (List.getElem_mem hx0)
            have q1 := HBD.out _ (List.getElem_mem hx1)
            have hown6 : W6.ownsRow wr.heap.size 3 1 (.slice (some ⟨g5, 0, none⟩) m c5) m (intsV P) := HS6.out.nth 2 rfl
            have z0 := hown6.cellAt (2 * x.1) (by omega)
            have z1 := hown6.cellAt (2 * x.1 + 1) (by omega)
            rw [intsV_at hx0] at z0
            rw [intsV_at hx1] at z1
            have hpb : Blk W6 wr.heap.size 52 #[.func (.func 18) #[] #[.pointer (some ⟨w.heap.size, 0, none⟩)]] := HS6.out.nth 4 rfl
            obtain ⟨p0, hp0⟩ : ∃ p, P[2 * x.1] = p := ⟨_, rfl⟩
            obtain ⟨p1, hp1⟩ : ∃ p, P[2 * x.1 + 1] = p := ⟨_, rfl⟩
            rw [hp0] at z0 q0 hg
            rw [hp1] at z1 q1 hg
            obtain ⟨s0, hs0⟩ : ∃ s, whoF who p0 = s := ⟨_, rfl⟩
            obtain ⟨s1, hs1⟩ : ∃ s, whoF who p1 = s := ⟨_, rfl⟩
            rw [hs0, hs1] at hg
            have hlr := HCW.out.size
            have hwr := hBk.lt
            have HZ : Hid (∀ V, Bx W6.heap.size (wr.heap.size + 1) W V → V.cell? ⟨g5, 2 * x.1, none⟩ = some (.int .i64 p0) ∧ V.cell? ⟨g5, 2 * x.1 + 1, none⟩ = some (.int .i64 p1) ∧ V.cell? ⟨wr.heap.size, 0, none⟩ = some (.func (.func 18) #[] #[.pointer (some ⟨w.heap.size, 0, none⟩)])) := Lib.hid (fun V hV => ⟨((hB.trans hV).cell_ (p := ⟨g5, 2 * x.1, none⟩) (show g5 < W6.heap.size by omega) (show g5 ≠ wr.heap.size + 1 by omega)).trans z0, ((hB.trans hV).cell_ (p := ⟨g5, 2 * x.1 + 1, none⟩) (show g5 < W6.heap.size by omega) (show g5 ≠ wr.heap.size + 1 by omega)).trans z1, (hpb.bx (hB.trans hV) (by omega)).cell 0⟩)
            have HC0 : Hid (∀ V, Bx W6.heap.size (wr.heap.size + 1) W V → Calls Tryz.prog 18 #[.int .i64 p0, .pointer (some ⟨w.heap.size, 0, none⟩)] V (fun e w' => e = .returned (.string s0) ∧ V = w')) := Lib.hid (fun V hV => by
              have := player_calls b w.heap.size _ A k c who p0 V (HBK.out.bx (hB.trans hV) (by omega)) (HR.out.below (HCW.out.trans (((hB.trans hV).mono hlr).below (by omega)))) q0.1
              rw [hs0] at this
              exact this)
            have HC1 : Hid (∀ V, Bx W6.heap.size (wr.heap.size + 1) W V → Calls Tryz.prog 18 #[.int .i64 p1, .pointer (some ⟨w.heap.size, 0, none⟩)] V (fun e w' => e = .returned (.string s1) ∧ V = w')) := Lib.hid (fun V hV => by
              have := player_calls b w.heap.size _ A k c who p1 V (HBK.out.bx (hB.trans hV) (by omega)) (HR.out.below (HCW.out.trans (((hB.trans hV).mono hlr).below (by omega)))) q1.1
              rw [hs1] at this
              exact this)
            have HG := Lib.hid hg
            obtain ⟨o2, ho2⟩ : ∃ o2, 2 * x.1 = o2 := ⟨_, rfl⟩
            rw [ho2] at HZ
            simp only [ho2]
            have hstart : BSt W W6.heap.size (wr.heap.size + 1) v pre.length ((pre.map (fun x => gmAt who P x.1)).flatMap gmC) s0 s1 false false false false undef undef W.drew := BSt.start hv hrow
            have hW6 := hB.size
            have hpre : pre.length ≤ 1000 := by omega
            clear hp0 hp1 hs0 hs1 hg z0 z1 hpb hown6 hx0 hx1 hv hrow
            refine wpAnyIn_inv (Inv := fun li a V => ∃ (b0 b1 b2 b3 b4 b5 b6 b7 b8 b9 b10 b11 b12 b13 b14 : Bool) (x45 x46 x47 x48 x49 x50 x51 x52 x53 x54 x55 x56 x57 x58 : Value), li = #[b0, b1, b2, b3, b4, b5, b6, b7, b8, b9, b10, b11, b12, b13, b14] ∧ a = ({ tmps := #[.slice A k c, .pointer (some ⟨w.heap.size, 0, none⟩), u2, u3, u4, u5, .int .i64 (m : Int), .pointer (some ⟨wr.heap.size, 0, none⟩), .pointer (some ⟨wr.heap.size + 1, 0, none⟩), .slice (some ⟨g5, o2, none⟩) 2 2, .bool (decide (128 < (k : Int))), .slice A k c, .int .i64 (k : Int), .bool (decide (128 < (k : Int))), .bool (decide ((k : Int) < 2)), .slice A k c, .int .i64 (k : Int), .bool (decide ((k : Int) < 2)), .slice A k c, .int .i64 (k : Int), .int .i64 (k : Int), .bool false, u22, u23, u24, u25, u26, u27, u28, u29, u30, u31, u32, u33, .int .i64 (m : Int), .slice A k c, .int .i64 (k : Int), .bool false, u38, u39, .func (.func 18) #[] #[.pointer (some ⟨w.heap.size, 0, none⟩)], .int .i64 (m : Int), .slice (some ⟨g5, 0, none⟩) m c5, .func (.func 43) #[] #[.pointer (some ⟨w5.heap.size, 0, none⟩), .pointer (some ⟨w5.heap.size + 1, 0, none⟩)], .slice (some ⟨g5, o2, none⟩) 2 2, x45, x46, x47, x48, x49, x50, x51, x52, x53, x54, x55, x56, x57, x58, undef], defers := [] } : Act) ∧ (b0 = true → x45 = v) ∧ (b1 = true → x46 = .func (.func 18) #[] #[.pointer (some ⟨w.heap.size, 0, none⟩)]) ∧ (b2 = true → x47 = .slice (some ⟨g5, o2, none⟩) 2 2) ∧ (b3 = true → x48 = .pointer (some ⟨g5, o2, none⟩)) ∧ (b4 = true → x49 = .int .i64 p0) ∧ (b5 = true → x50 = .string s0) ∧ (b6 = true → x51 = .func (.func 18) #[] #[.pointer (some ⟨w.heap.size, 0, none⟩)]) ∧ (b7 = true → x52 = .slice (some ⟨g5, o2, none⟩) 2 2) ∧ (b8 = true → x53 = .pointer (some ⟨g5, o2 + 1, none⟩)) ∧ (b9 = true → x54 = .int .i64 p1) ∧ (b10 = true → x55 = .string s1) ∧ (b11 = true → x56 = .agg #[.string s0, .string s1]) ∧ BSt W W6.heap.size (wr.heap.size + 1) v pre.length ((pre.map (fun x => gmAt who P x.1)).flatMap gmC) s0 s1 b0 b12 b13 b14 x57 x58 V) ?_ _ _ _ _ (by decide) rfl ?_
            rotate_left
            · exact ⟨false, false, false, false, false, false, false, false, false, false, false, false, false, false, false, undef, undef, undef, undef, undef, undef, undef, undef, undef, undef, undef, undef, undef, undef, rfl, rfl, (fun h => by cases h), (fun h => by cases h), (fun h => by cases h), (fun h => by cases h), (fun h => by cases h), (fun h => by cases h), (fun h => by cases h), (fun h => by cases h), (fun h => by cases h), (fun h => by cases h), (fun h => by cases h), (fun h => by cases h), hstart⟩
            rintro li a V ⟨b0, b1, b2, b3, b4, b5, b6, b7, b8, b9, b10, b11, b12, b13, b14, x45, x46, x47, x48, x49, x50, x51, x52, x53, x54, x55, x56, x57, x58, rfl, rfl, h0, h1, h2, h3, h4, h5, h6, h7, h8, h9, h10, h11, hI⟩
            by_cases hall : (b0 && b1 && b2 && b3 && b4 && b5 && b6 && b7 && b8 && b9 && b10 && b11 && b12 && b13 && b14) = true
            · simp only [Bool.and_eq_true] at hall
              obtain ⟨⟨⟨⟨⟨⟨⟨⟨⟨⟨⟨⟨⟨⟨rfl, rfl⟩, rfl⟩, rfl⟩, rfl⟩, rfl⟩, rfl⟩, rfl⟩, rfl⟩, rfl⟩, rfl⟩, rfl⟩, rfl⟩, rfl⟩, rfl⟩ := hall
              left
              intro fuel _
              refine wpAnyIn_done (by kernel_rfl) ?_ fuel
              obtain ⟨hx4, hr4⟩ := hI.p4 rfl
              refine ⟨hI.kp, hI.bx, ⟨x58, hx4, ?_, trivial⟩, hB.trans hI.bx⟩
              rw [List.length_append, List.map_append, List.flatMap_append]
              have hge : List.flatMap gmC (List.map (fun x => gmAt who P x.1) [x]) = [.string s0, .string s1] := by simp [HG.out, gmC]
              rw [hge]
              exact hr4
            right
            refine ⟨fun he => ?_, fun i hi => ?_⟩
            · clear hI
              cases b0
              · exact ready_ne he 0 rfl rfl (by rfl)
              cases b1
              · exact ready_ne he 1 rfl rfl (by rfl)
              cases b2
              · exact ready_ne he 2 rfl rfl (by rfl)
              cases b3
              · exact ready_ne he 3 rfl rfl (by rfl)
              cases b4
              · exact ready_ne he 4 rfl rfl (by rfl)
              cases b5
              · exact ready_ne he 5 rfl rfl (by rfl)
              cases b6
              · exact ready_ne he 6 rfl rfl (by rfl)
              cases b7
              · exact ready_ne he 7 rfl rfl (by rfl)
              cases b8
              · exact ready_ne he 8 rfl rfl (by rfl)
              cases b9
              · exact ready_ne he 9 rfl rfl (by rfl)
              cases b10
              · exact ready_ne he 10 rfl rfl (by rfl)
              cases b11
              · exact ready_ne he 11 rfl rfl (by rfl)
              cases b12
              · exact ready_ne he 12 rfl rfl (by rfl)
              cases b13
              · exact ready_ne he 13 rfl rfl (by rfl)
              cases b14
              · exact ready_ne he 14 rfl rfl (by rfl)
              exact hall rfl
            obtain ⟨hz, o, ho, hd0⟩ := mem_ready.1 hi
            have hlt' : i < 15 := (Array.getElem?_eq_some_iff.1 ho).1
            clear hd0 ho o hall
            obtain ⟨n0, n1, n2⟩ := HZ.out V hI.bx
            have hlo : V.heap.size ≥ W6.heap.size := by have := hI.bx.size; omega
            have hc : i = 0 ∨ i = 1 ∨ i = 2 ∨ i = 3 ∨ i = 4 ∨ i = 5 ∨ i = 6 ∨ i = 7 ∨ i = 8 ∨ i = 9 ∨ i = 10 ∨ i = 11 ∨ i = 12 ∨ i = 13 ∨ i = 14 := by omega
            rcases hc with rfl | rfl | rfl | rfl | rfl | rfl | rfl | rfl | rfl | rfl | rfl | rfl | rfl | rfl | rfl
            · obtain rfl : b0 = false := hz
              have c0 := hI.out0
              have hI0 := hI.op0
              refine wpOpIn_step rfl (fun K hK => ?_)
              have HK := Lib.hid hK
              clear hK
              go_simp
              exact HK.out _ _ ⟨true, b1, b2, b3, b4, b5, b6, b7, b8, b9, b10, b11, b12, b13, b14, _, _, _, _, _, _, _, _, _, _, _, _, _, _, rfl, rfl, (fun _ => rfl), h1, h2, h3, h4, h5, h6, h7, h8, h9, h10, h11, hI0⟩
            · obtain rfl : b1 = false := hz
              refine wpOpIn_step rfl (fun K hK => ?_)
              have HK := Lib.hid hK
              clear hK
              go_simp
              exact HK.out _ _ ⟨b0, true, b2, b3, b4, b5, b6, b7, b8, b9, b10, b11, b12, b13, b14, _, _, _, _, _, _, _, _, _, _, _, _, _, _, rfl, rfl, h0, (fun _ => rfl), h2, h3, h4, h5, h6, h7, h8, h9, h10, h11, hI⟩
            · obtain rfl : b2 = false := hz
              refine wpOpIn_step rfl (fun K hK => ?_)
              have HK := Lib.hid hK
              clear hK
              go_simp
              exact HK.out _ _ ⟨b0, b1, true, b3, b4, b5, b6, b7, b8, b9, b10, b11, b12, b13, b14, _, _, _, _, _, _, _, _, _, _, _, _, _, _, rfl, rfl, h0, h1, (fun _ => rfl), h3, h4, h5, h6, h7, h8, h9, h10, h11, hI⟩
            · obtain rfl : b3 = false := hz
              have d2 : b2 = true := ready_dep hi 2 (by kernel_rfl)
              obtain rfl := h2 d2
              refine wpOpIn_step rfl (fun K hK => ?_)
              have HK := Lib.hid hK
              clear hK
              go_simp
              exact HK.out _ _ ⟨b0, b1, b2, true, b4, b5, b6, b7, b8, b9, b10, b11, b12, b13, b14, _, _, _, _, _, _, _, _, _, _, _, _, _, _, rfl, rfl, h0, h1, h2, (fun _ => rfl), h4, h5, h6, h7, h8, h9, h10, h11, hI⟩
            · obtain rfl : b4 = false := hz
              have d3 : b3 = true := ready_dep hi 3 (by kernel_rfl)
              obtain rfl := h3 d3
              refine wpOpIn_step rfl (fun K hK => ?_)
              have HK := Lib.hid hK
              clear hK
              go_simp
              exact HK.out _ _ ⟨b0, b1, b2, b3, true, b5, b6, b7, b8, b9, b10, b11, b12, b13, b14, _, _, _, _, _, _, _, _, _, _, _, _, _, _, rfl, rfl, h0, h1, h2, h3, (fun _ => rfl), h5, h6, h7, h8, h9, h10, h11, hI⟩
            · obtain rfl : b5 = false := hz
              have d1 : b1 = true := ready_dep hi 1 (by kernel_rfl)
              have d4 : b4 = true := ready_dep hi 4 (by kernel_rfl)
              obtain rfl := h1 d1
              obtain rfl := h4 d4
              refine wpOpIn_step rfl (fun K hK => ?_)
              have HK := Lib.hid hK
              clear hK
              go_simp
              refine ⟨trivial, ?_⟩
              refine (CallsIn.inRound l (callsIn_wide.2 (HC0.out V hI.bx))).mono ?_
              rintro e V1 ⟨rfl, rfl⟩
              exact HK.out _ _ ⟨b0, b1, b2, b3, b4, true, b6, b7, b8, b9, b10, b11, b12, b13, b14, _, _, _, _, _, _, _, _, _, _, _, _, _, _, rfl, rfl, h0, h1, h2, h3, h4, (fun _ => rfl), h6, h7, h8, h9, h10, h11, hI⟩
            · obtain rfl : b6 = false := hz
              refine wpOpIn_step rfl (fun K hK => ?_)
              have HK := Lib.hid hK
              clear hK
              go_simp
              exact HK.out _ _ ⟨b0, b1, b2, b3, b4, b5, true, b7, b8, b9, b10, b11, b12, b13, b14, _, _, _, _, _, _, _, _, _, _, _, _, _, _, rfl, rfl, h0, h1, h2, h3, h4, h5, (fun _ => rfl), h7, h8, h9, h10, h11, hI⟩
            · obtain rfl : b7 = false := hz
              refine wpOpIn_step rfl (fun K hK => ?_)
              have HK := Lib.hid hK
              clear hK
              go_simp
              exact HK.out _ _ ⟨b0, b1, b2, b3, b4, b5, b6, true, b8, b9, b10, b11, b12, b13, b14, _, _, _, _, _, _, _, _, _, _, _, _, _, _, rfl, rfl, h0, h1, h2, h3, h4, h5, h6, (fun _ => rfl), h8, h9, h10, h11, hI⟩
            · obtain rfl : b8 = false := hz
              have d7 : b7 = true := ready_dep hi 7 (by kernel_rfl)
              obtain rfl := h7 d7
              refine wpOpIn_step rfl (fun K hK => ?_)
              have HK := Lib.hid hK
              clear hK
              go_simp
              exact HK.out _ _ ⟨b0, b1, b2, b3, b4, b5, b6, b7, true, b9, b10, b11, b12, b13, b14, _, _, _, _, _, _, _, _, _, _, _, _, _, _, rfl, rfl, h0, h1, h2, h3, h4, h5, h6, h7, (fun _ => rfl), h9, h10, h11, hI⟩
            · obtain rfl : b9 = false := hz
              have d8 : b8 = true := ready_dep hi 8 (by kernel_rfl)
              obtain rfl := h8 d8
              refine wpOpIn_step rfl (fun K hK => ?_)
              have HK := Lib.hid hK
              clear hK
              go_simp
              exact HK.out _ _ ⟨b0, b1, b2, b3, b4, b5, b6, b7, b8, true, b10, b11, b12, b13, b14, _, _, _, _, _, _, _, _, _, _, _, _, _, _, rfl, rfl, h0, h1, h2, h3, h4, h5, h6, h7, h8, (fun _ => rfl), h10, h11, hI⟩
            · obtain rfl : b10 = false := hz
              have d6 : b6 = true := ready_dep hi 6 (by kernel_rfl)
              have d9 : b9 = true := ready_dep hi 9 (by kernel_rfl)
              obtain rfl := h6 d6
              obtain rfl := h9 d9
              refine wpOpIn_step rfl (fun K hK => ?_)
              have HK := Lib.hid hK
              clear hK
              go_simp
              refine ⟨trivial, ?_⟩
              refine (CallsIn.inRound l (callsIn_wide.2 (HC1.out V hI.bx))).mono ?_
              rintro e V1 ⟨rfl, rfl⟩
              exact HK.out _ _ ⟨b0, b1, b2, b3, b4, b5, b6, b7, b8, b9, true, b11, b12, b13, b14, _, _, _, _, _, _, _, _, _, _, _, _, _, _, rfl, rfl, h0, h1, h2, h3, h4, h5, h6, h7, h8, h9, (fun _ => rfl), h11, hI⟩
            · obtain rfl : b11 = false := hz
              have d5 : b5 = true := ready_dep hi 5 (by kernel_rfl)
              have d10 : b10 = true := ready_dep hi 10 (by kernel_rfl)
              obtain rfl := h5 d5
              obtain rfl := h10 d10
              refine wpOpIn_step rfl (fun K hK => ?_)
              have HK := Lib.hid hK
              clear hK
              go_simp
              exact HK.out _ _ ⟨b0, b1, b2, b3, b4, b5, b6, b7, b8, b9, b10, true, b12, b13, b14, _, _, _, _, _, _, _, _, _, _, _, _, _, _, rfl, rfl, h0, h1, h2, h3, h4, h5, h6, h7, h8, h9, h10, (fun _ => rfl), hI⟩
            · obtain rfl : b12 = false := hz
              have d11 : b11 = true := ready_dep hi 11 (by kernel_rfl)
              obtain rfl := h11 d11
              have hI2 := hI.opl (by omega)
              refine wpOpIn_step rfl (fun K hK => ?_)
              have HK := Lib.hid hK
              clear hK
              go_simp
              exact HK.out _ _ ⟨b0, b1, b2, b3, b4, b5, b6, b7, b8, b9, b10, b11, true, b13, b14, _, _, _, _, _, _, _, _, _, _, _, _, _, _, rfl, rfl, h0, h1, h2, h3, h4, h5, h6, h7, h8, h9, h10, h11, hI2⟩
            · obtain rfl : b13 = false := hz
              have d0 : b0 = true := ready_dep hi 0 (by kernel_rfl)
              have d12 : b12 = true := ready_dep hi 12 (by kernel_rfl)
              subst d12
              subst d0
              obtain rfl := h0 rfl
              refine wpOpIn_step rfl (fun K hK => ?_)
              have HK := Lib.hid hK
              clear hK
              refine BSt.app rfl (.tmp 45) (.tmp 57) rfl hI b (by omega) (by omega) hpre rfl rfl (fun v' V' hI3 => ?_)
              exact HK.out _ _ ⟨true, b1, b2, b3, b4, b5, b6, b7, b8, b9, b10, b11, true, true, b14, _, _, _, _, _, _, _, _, _, _, _, _, _, _, rfl, rfl, (fun _ => rfl), h1, h2, h3, h4, h5, h6, h7, h8, h9, h10, h11, hI3⟩
            · obtain rfl : b14 = false := hz
              have d13 : b13 = true := ready_dep hi 13 (by kernel_rfl)
              subst d13
              have d12 := hI.og3 rfl
              have d0 := hI.og1 rfl
              subst d12 d0
              have hI4 := hI.ops
              have c0 := (hI.p3 rfl rfl).1.cell
              have f0 := (hI.p3 rfl rfl).1.frozen
              obtain ⟨A8, c8, hv8⟩ := own_form (hI.p3 rfl rfl).2
              subst hv8
              refine wpOpIn_step rfl (fun K hK => ?_)
              have HK := Lib.hid hK
              clear hK
              go_simp
              exact HK.out _ _ ⟨true, b1, b2, b3, b4, b5, b6, b7, b8, b9, b10, b11, true, true, true, _, _, _, _, _, _, _, _, _, _, _, _, _, _, rfl, rfl, (fun _ => rfl), h1, h2, h3, h4, h5, h6, h7, h8, h9, h10, h11, hI4⟩
          case hdone =>
            rintro D ys W hD rfl ⟨⟨v, hv, hrow, _⟩, hB⟩ hK
            have hc := hv.cell
            have hwr := hBk.lt
            have hlr := HCW.out.size
            have hbW : Below w.heap.size w W := HCW.out.trans ((hB.mono hlr).below (by omega))
            have hbZ := hbW.trans (belowK_b (w := w) (Nat.le_refl _) W D _ (.deferred none) (by omega) hK rfl rfl)
            have hrow2 := own_base (ownsRow_putObj hrow (.deferred none) hK rfl) hlr
            have hLL : (List.finRange t).map (fun x => gmAt who P x.1) = brkA who := by
              rw [twos_gm who P t (by rw [HPL.out, ht]), ← HB.out]
              unfold brkA
              rw [if_pos HE.out]
            have hLn : (List.finRange t).length = (brkA who).length := by rw [← hLL, List.length_map]
            rw [hLL, hLn] at hrow2
            have HR2 := Lib.hid hrow2
            have HBZ := Lib.hid hbZ
            clear hrow hrow2 hLL hLn hbZ hbW
            go_wp2_with fail
            refine ⟨by simp, .inl ⟨_, _, rfl, run_takeDeferred hK, ?_⟩⟩
            exact ⟨.tuple #[v, .int .i64 0], by simp [results, Tryz.results6, go_sem], v, by rw [HE.out], HR2.out, HBZ.out⟩
          case hstop =>
            rintro D c pre W _ _ h _
            exact h.elim
end Go.Proofs.YtejadhehmcifoaaGreatDoor
