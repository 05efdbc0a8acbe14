/-
  BracketOf of the reference by one contract.
-/
import Derived.Test.YtejadhehmcifoaaZBrk1
import Derived.Test.YtejadhehmcifoaaZAppAny
import Derived.Deep.RegionHeld3
import Derived.Deep.DeepCutAuto
import Derived.RegionTactic
import Derived.ChangeAlike
import Derived.BigRegion
namespace Go.Proofs.Ytejadhehmcifoaa
open Go Go.RowKit

theorem info_gm : (Try.prog.info? 35).map (fun i => (i.zero, i.size, i.bytes)) = some (some (.agg #[.string ⟨#[]⟩, .string ⟨#[]⟩]), 2, 32) := by kernel_rfl
theorem upP_step (n k : Nat) (hk : k ≤ 7) : upP n (8 - k) k = if n ≤ 2 ^ k then k else upP n (8 - (k + 1)) (k + 1) := by
  obtain ⟨f, hf⟩ : ∃ f, 8 - k = f + 1 := ⟨7 - k, by omega⟩
  rw [hf, upP, show 8 - (k + 1) = f by omega]
theorem intsV_at {L : List Int} {j : Nat} (hj : j < L.length) : (intsV L)[j]? = some (.int .i64 L[j]) := by simp [intsV, List.getElem?_eq_getElem hj]

theorem sq_weak {w W : World} {l : List Rsc} {r r' : Rsc} (h : Sq w W (r :: l)) (hp : r.P W → r'.P W) (hok : r'.Ok) (hf : ∀ k, r'.fp k → r.fp k) : Sq w W (r' :: l) :=
  ⟨h.below, h.hp.tail.cons (hp h.head) hok (fun k hk => h.hp.new _ (List.mem_cons_self ..) k (hf k hk)) (fun s hs k hk hk2 => (List.pairwise_cons.1 h.hp.apart).1 s hs k (hf k hk) hk2)⟩
/-- games in memory -/
def rGm (base : Nat) (A : Option Addr) (n c : Nat) (gs : List (ByteArray × ByteArray)) : Rsc := rOwn base 35 2 (.slice A n c) n (gs.flatMap gmC)
def gmL (g : ByteArray × ByteArray) : Array Value := #[.string g.1, .string g.2]
theorem gmC_one (g : ByteArray × ByteArray) : ∀ u ∈ gmC g, u.oneCell' = true := one2 rfl rfl
/-- one more game -/
theorem step_app_gm {w0 V : World} {g : ByteArray × ByteArray} {L : List Rsc} {A : Option Addr} {n c : Nat} {ys : List (ByteArray × ByteArray)} {gl : Nat} {ops : Array Oper} {o : Oper} {a : Act} {K : Act → World → Prop} {Q : Exit → Act → World → Prop} {E : Prop} (hgd : o.guard = none) (s y : Operand) (ho : o.op = .call { callee := .builtin .append, args := #[s, y], argTypes := #[28, 28] })
    (hT : Sq w0 V (rBlk gl 35 (gmL g) :: rGm w0.heap.size A n c ys :: L)) (b : Nat) (hb : b < w0.heap.size) (hn : n ≤ 1000) (hs : a.eval s = .slice A n c) (hx : a.eval y = .slice (some ⟨gl, 0, none⟩) 1 1)
    (h : ∀ A' c' V', Sq w0 V' (rBlk gl 35 (gmL g) :: rGm w0.heap.size A' (n + 1) c' (ys ++ [g]) :: L) → K (a.put o.dst (.slice A' (n + 1) c')) V') :
    if Region.wanted o (yielded ops a.tmps) = true then Oper.wp Try.prog o a V K Q else E := by
  obtain ⟨i0, hi, hz0, hz1, hz2⟩ := info_parts info_gm
  have hw : Region.wanted o (yielded ops a.tmps) = true := by simp [Region.wanted, hgd]
  rw [if_pos hw]
  have hb' : Blk V gl 35 (gmL g) := hT.head
  have hS1 := hT.front 1 rfl rfl
  have hown : V.ownsRow w0.heap.size 35 2 (.slice A n c) n (ys.flatMap gmC) := hS1.head
  have hge : w0.heap.size ≤ gl := hT.ge 0 rfl
  have hr : Rd V b 2 (.slice (some ⟨gl, 0, none⟩) 1 1) 1 (gmC g) := blkRd 2 1 hb' (by omega) (by decide) rfl
  refine wp_app_rd V s y 28 ho w0.heap.size 35 i0 (.agg #[.string ⟨#[]⟩, .string ⟨#[]⟩]) 2 32 Try.underlying28 hi hz0 hz1 hz2 rfl (by decide) _ n _ hs hown b _ 1 1 (gmC g) hx hr (gmC_one g) (by unfold maxLen; omega) (by omega) hT.size ?_
  intro v' w' h1 h2 h3
  obtain ⟨A', c', rfl⟩ := own_form h1
  refine h A' c' w' ?_
  have h4 := (hS1.append h1 h2 h3).front 1 rfl rfl
  have he : ys.flatMap gmC ++ gmC g = (ys ++ [g]).flatMap gmC := by simp
  rw [he] at h4
  exact h4

set_option maxRecDepth 100000 in
set_option maxHeartbeats 4000000 in
theorem bracketOf_calls (b : Nat) (A : Option Addr) (n c : Nat) (who : List ByteArray) (w : World) (hr : Rd w b 1 (.slice A n c) n (strsV who)) (hb : b < w.heap.size) (h2 : 2 ≤ n) (h128 : n ≤ 128) :
    Calls Try.prog 8 #[.slice A n c] w fun e w' => ∃ v, e = .returned v ∧ w'.ownsRow w.heap.size 35 2 v (brkL who).length ((brkL who).flatMap gmC) ∧ Below w.heap.size w w' := by
  obtain ⟨hl, hnc, hcm, hcells⟩ := strs_cells hr
  unfold maxLen at hcm
  have HL := Lib.hid hl
  have HR := Lib.hid hr
  have hT0 : Sq w ((w.alloc (.cells #[.slice A n c] 26)).alloc (.cells #[.int .i64 1] 3)) [rOwn w.heap.size 3 1 (.slice (some ⟨w.heap.size + 1, 0, none⟩) (2 ^ 0) 1) (2 ^ 0) (intsV (plP 0)), rBlk w.heap.size 26 #[.slice A n c]] := by
    have h1 := (Sq.start w).add #[.slice A n c] 26
    refine sq_weak (h1.add #[.int .i64 1] 3) (fun hp => ?_) (rOwn_ok _ _ _ _ _ _) (fun g hg => ?_)
    · exact ⟨rfl, .inr ⟨w.heap.size + 1, 1, #[.int .i64 1], rfl, by omega, by have := hp; rw [World.size_alloc] at this; exact this, Nat.le_refl _, (by unfold maxLen; omega), rfl, rfl⟩⟩
    · injection hg with hg
      rw [World.size_alloc]
      exact hg.symm
  clear hr hl hcells
  go_enter Try.func8, Try.ntmps8
  go_wp2_with fail
  go_loopw [3] (fun v wr => ∃ (k : Nat) (A1 : Option Addr) (c1 : Nat), k ≤ 7 ∧ Hid (upP n 8 0 = upP n (8 - k) k) ∧ v = .slice A1 (2 ^ k) c1 ∧ Sq w wr [rOwn w.heap.size 3 1 (.slice A1 (2 ^ k) c1) (2 ^ k) (intsV (plP k)), rBlk w.heap.size 26 #[.slice A n c]]) (fun v _ => match v with | .slice _ m _ => n - m | _ => 0)
  case atStart => exact ⟨0, _, _, by omega, Lib.hid rfl, rfl, hT0⟩
  case round =>
    clear hT0
    obtain ⟨k, A1, c1, hk7, HU, rfl, hT⟩ := hrel
    have HUS := Lib.hid (HU.out.trans (upP_step n k hk7))
    obtain ⟨m, hm⟩ : ∃ m : Nat, 2 ^ k = m := ⟨_, rfl⟩
    have hm1 : 1 ≤ m := by rw [← hm]; exact Nat.one_le_two_pow
    have hm2 : m ≤ 128 := by rw [← hm]; exact Nat.le_trans (Nat.pow_le_pow_right (by decide) hk7) (by decide)
    have HM := Lib.hid hm
    have hbd := plP_bd k
    have hplen := plP_len k
    have hplS : plP (k + 1) = dblL (plP k) ((2 ^ (k + 1) : Nat) : Int) := rfl
    have hpw : 2 ^ (k + 1) = 2 * m := by rw [Nat.pow_succ]; omega
    rw [hm] at hT hbd hplen HUS ⊢
    rw [hpw] at hplS
    have HPS := Lib.hid hplS
    have HPW := Lib.hid hpw
    have HPK := Lib.hid (show brkL who = twos (whoF who) (plP (upP n 8 0)) by unfold brkL; rw [HL.out])
    obtain ⟨P, hP⟩ : ∃ P, plP k = P := ⟨_, rfl⟩
    have HPP := Lib.hid hP
    rw [hP] at hT hbd hplen HPS
    have HBD := Lib.hid hbd
    have HPL := Lib.hid hplen
    have c0 : wr.cell? ⟨w.heap.size, 0, none⟩ = some (.slice A n c) := (show Blk wr w.heap.size 26 #[.slice A n c] from hT.nth 1 rfl).cell 0
    clear hm hplS hpw hP hbd hplen HU
    by_cases hlt : m < n
    · have HST := Lib.hid (HUS.out.trans (if_neg (by omega)))
      have hk6 : k ≤ 6 := by
        have h1 := HM.out
        by_cases h7 : k = 7
        · subst h7
          have : (2 : Nat) ^ 7 = 128 := by decide
          omega
        · omega
      have hcn : (m : Int) < (n : Int) := by omega
      have hT1 := hT.nil w.heap.size 3 1
      clear hT HUS
      go_wp2_with fail
      go_loopw [4, 18] (fun v i wr => ∃ j : Nat, j ≤ m ∧ i = .int .i64 j ∧ Sq w wr [rOwn w.heap.size 3 1 v (2 * j) (intsV (dblL (P.take j) ((2 * m : Nat) : Int))), rOwn w.heap.size 3 1 (.slice A1 m c1) m (intsV P), rBlk w.heap.size 26 #[.slice A n c]]) (fun _ i _ => m - (intOf i).toNat)
      case atStart => exact ⟨0, Nat.zero_le _, rfl, hT1⟩
      case round =>
        clear hT1 c0
        obtain ⟨j, hj, rfl, hT⟩ := hrel
        by_cases hjt : j < m
        · have hown6 : wr.ownsRow w.heap.size 3 1 (.slice A1 m c1) m (intsV P) := hT.nth 1 rfl
          have hjl : j < P.length := by rw [HPL.out]; exact hjt
          obtain ⟨g6, cap6, hv6, _, _⟩ := hown6.form (by omega)
          injection hv6 with hA6 _ hc6
          subst hA6 hc6
          have c6 := hown6.cellAt j (by omega)
          have hz := HBD.out _ (List.getElem_mem hjl)
          have hsn : Hid (dblL (P.take (j + 1)) ((2 * m : Nat) : Int) = dblL (P.take j) ((2 * m : Nat) : Int) ++ [P[j], ((2 * m : Nat) : Int) + 1 - P[j]]) := Lib.hid (by rw [List.take_succ_eq_append_getElem hjl, dblL_snoc])
          rw [intsV_at hjl] at c6
          obtain ⟨z, hzz⟩ : ∃ z, P[j] = z := ⟨_, rfl⟩
          rw [hzz] at c6 hz hsn
          have hown : wr.ownsRow w.heap.size 3 1 u4 (2 * j) (intsV (dblL (P.take j) ((2 * m : Nat) : Int))) := hT.head
          have hsz := hT.size
          have hk0 : (0 : Int) ≤ (j : Int) := by omega
          have hk1 : (j : Int) < (m : Int) := by omega
          obtain ⟨hz1, hz2⟩ := hz
          obtain ⟨j0, hj0, hyy0, hyy1, hyy2⟩ := info_parts info_int1
          clear hzz hown6
          go_wp2_with (first
            | (at_builtin; refine wpList_append_own_at _ rfl _ _ 22 rfl w.heap.size 3 j0 (.int .i64 0) 1 8 Try.underlying22 hj0 hyy0 hyy1 hyy2 rfl (by decide) _ _ _ rfl (hown.alloc _) ⟨wr.heap.size, 0, none⟩ 2 2 [.int .i64 z, .int .i64 (2 * (m : Int) + 1 - z)] rfl rfl (World.news_of_block (heap_alloc_new _ _)) (one2 rfl rfl) (by unfold maxLen; omega) (by omega) (by simp; omega) ?_; intro v' w8 hown' hgrow _ hblk; have hT8 := (hT.alloc (.cells #[.int .i64 z, .int .i64 (2 * (m : Int) + 1 - z)] 3)).append hown' hgrow hblk; clear hown' hgrow hblk))
          go_roundw
          case rel =>
            refine ⟨j + 1, by omega, by go_num, ?_⟩
            rw [hsn.out, show 2 * (j + 1) = 2 * j + 2 by omega]
            have he : intsV (dblL (P.take j) ((2 * m : Nat) : Int) ++ [z, ((2 * m : Nat) : Int) + 1 - z]) = intsV (dblL (P.take j) ((2 * m : Nat) : Int)) ++ [.int .i64 z, .int .i64 (2 * (m : Int) + 1 - z)] := by simp [intsV]
            rw [he]
            exact hT8
          case measure => simp [intOf]; omega
        · obtain rfl : j = m := by omega
          have hT2 : Sq w wr [rOwn w.heap.size 3 1 u4 (2 * j) (intsV (dblL (P.take j) ((2 * j : Nat) : Int))), rBlk w.heap.size 26 #[.slice A n c]] := hT.drop 1 rfl rfl
          rw [List.take_of_length_le (by rw [HPL.out]; exact Nat.le_refl _), ← HPS.out] at hT2
          obtain ⟨A2, c2, hv⟩ := own_form hT2.head
          subst hv
          clear hT
          go_wp2_with fail
          go_roundw
          case rel =>
            refine ⟨k + 1, A2, c2, by omega, HST, ?_, ?_⟩
            · rw [HPW.out]
            · rw [HPW.out]
              exact hT2
          case measure =>
            simp
            omega
    · have HST := Lib.hid (HUS.out.trans (if_pos (by omega)))
      clear HUS
      obtain ⟨q, hq⟩ : ∃ q, m = 2 * q := by
        have h1 := HM.out
        cases k with
        | zero => simp at h1; omega
        | succ k => exact ⟨2 ^ k, by rw [← h1, Nat.pow_succ]; omega⟩
      have HB := Lib.hid (show brkL who = twos (whoF who) P by rw [HPK.out, HST.out, HPP.out])
      have HQ := Lib.hid hq
      have hT1 : Sq w wr [rGm w.heap.size none 0 0 [], rOwn w.heap.size 3 1 (.slice A1 m c1) m (intsV P), rBlk w.heap.size 26 #[.slice A n c]] := hT.nil w.heap.size 35 2
      have hcn : ¬ (m : Int) < (n : Int) := by omega
      clear hT hq
      go_wp2_with fail
      go_loopw [8, 9] (fun v i wr => ∃ (j j2 : Nat) (A3 : Option Addr) (c3 : Nat), 2 * j = j2 ∧ j ≤ q ∧ i = .int .i64 j2 ∧ v = .slice A3 j c3 ∧ Sq w wr [rGm w.heap.size A3 j c3 (twos (whoF who) (P.take j2)), rOwn w.heap.size 3 1 (.slice A1 m c1) m (intsV P), rBlk w.heap.size 26 #[.slice A n c]]) (fun _ i _ => m - (intOf i).toNat)
      case atStart => exact ⟨0, 0, none, 0, rfl, Nat.zero_le _, rfl, rfl, hT1⟩
      case round =>
        clear hT1 c0
        obtain ⟨j, j2, A3, c3, hj2, hj, rfl, rfl, hT⟩ := hrel
        have hj128 : j2 ≤ 128 := by have := HQ.out; omega
        by_cases hjt : j < q
        · have hown6 : wr.ownsRow w.heap.size 3 1 (.slice A1 m c1) m (intsV P) := hT.nth 1 rfl
          have hB2 : Blk wr w.heap.size 26 #[.slice A n c] := hT.nth 2 rfl
          have hqm := HQ.out
          have hjl : j2 < P.length := by rw [HPL.out]; omega
          have hjl1 : j2 + 1 < P.length := by rw [HPL.out]; omega
          obtain ⟨g6, cap6, hv6, _, _⟩ := hown6.form (by omega)
          injection hv6 with hA6 _ hc6
          subst hA6 hc6
          have d0 := hown6.cellAt j2 (by omega)
          have d1 := hown6.cellAt (j2 + 1) (by omega)
          have hz := HBD.out _ (List.getElem_mem hjl)
          have hz' := HBD.out _ (List.getElem_mem hjl1)
          have hsn : Hid (twos (whoF who) (P.take (j2 + 2)) = twos (whoF who) (P.take j2) ++ [(whoF who P[j2], whoF who P[j2 + 1])]) := Lib.hid (by
            have := twos_take (whoF who) P j P[j2] P[j2 + 1] (by rw [hj2, List.getElem?_eq_getElem hjl]) (by rw [hj2, List.getElem?_eq_getElem hjl1])
            rw [show 2 * (j + 1) = j2 + 2 by omega, hj2] at this
            exact this)
          rw [intsV_at hjl] at d0
          rw [intsV_at hjl1] at d1
          obtain ⟨x, hx⟩ : ∃ z, P[j2] = z := ⟨_, rfl⟩
          obtain ⟨y, hy⟩ : ∃ z, P[j2 + 1] = z := ⟨_, rfl⟩
          rw [hx] at d0 hz hsn
          rw [hy] at d1 hz' hsn
          have HRW := Lib.hid (HR.out.below hT.below)
          have HN1 : Hid (∀ W, Below wr.heap.size wr W → Calls Try.prog 40 #[.int .i64 x, .pointer (some ⟨w.heap.size, 0, none⟩)] W (fun e w' => e = .returned (.string (whoF who x)) ∧ W = w')) := Lib.hid (fun W hW => name_calls b w.heap.size _ A n c who x W (hB2.below hW) (HRW.out.below hW) hz.1)
          have HN2 : Hid (∀ W, Below wr.heap.size wr W → Calls Try.prog 40 #[.int .i64 y, .pointer (some ⟨w.heap.size, 0, none⟩)] W (fun e w' => e = .returned (.string (whoF who y)) ∧ W = w')) := Lib.hid (fun W hW => name_calls b w.heap.size _ A n c who y W (hB2.below hW) (HRW.out.below hW) hz'.1)
          obtain ⟨sx, hsx⟩ : ∃ s, whoF who x = s := ⟨_, rfl⟩
          obtain ⟨sy, hsy⟩ : ∃ s, whoF who y = s := ⟨_, rfl⟩
          rw [hsx] at HN1 hsn
          rw [hsy] at HN2 hsn
          have HX : Hid (∀ (A4 : Option Addr) (c4 : Nat) (W : World), Sq w W [rBlk wr.heap.size 35 (gmL (sx, sy)), rGm w.heap.size A4 (j + 1) c4 (twos (whoF who) (P.take j2) ++ [(sx, sy)]), rOwn w.heap.size 3 1 (.slice (some ⟨g6, 0, none⟩) m c1) m (intsV P), rBlk w.heap.size 26 #[.slice A n c]] → W.cell? ⟨g6, j2, none⟩ = some (.int .i64 x) ∧ W.cell? ⟨g6, j2 + 1, none⟩ = some (.int .i64 y)) := Lib.hid (fun A4 c4 W hW => by
            have ho : W.ownsRow w.heap.size 3 1 (.slice (some ⟨g6, 0, none⟩) m c1) m (intsV P) := hW.nth 2 rfl
            have e0 := ho.cellAt j2 (by omega)
            have e1 := ho.cellAt (j2 + 1) (by omega)
            rw [intsV_at hjl, hx] at e0
            rw [intsV_at hjl1, hy] at e1
            exact ⟨e0, e1⟩)
          have hTd : Sq w (wr.drew.alloc (.cells (gmL (sx, sy)) 35)) [rBlk wr.heap.size 35 (gmL (sx, sy)), rGm w.heap.size A3 j c3 (twos (whoF who) (P.take j2)), rOwn w.heap.size 3 1 (.slice (some ⟨g6, 0, none⟩) m c1) m (intsV P), rBlk w.heap.size 26 #[.slice A n c]] := (hT.drew).add (gmL (sx, sy)) 35
          have hbd : Below wr.heap.size wr wr.drew := below_drewN (Below.refl _ _) 1
          have hsz := hT.size
          have hk0 : (0 : Int) ≤ (j2 : Int) := by omega
          have hk1 : (j2 : Int) + 1 < (m : Int) := by omega
          have hk2 : (j2 : Int) < (m : Int) := by omega
          have hk3 : (0 : Int) ≤ (j2 : Int) + 1 := by omega
          have hk4 : j2 + 1 < m := by omega
          have hk5 : j2 < m := by omega
          have hjn : j ≤ 1000 := by omega
          clear hx hy hsx hsy hown6 hqm hB2
          have hw1 : IntKind.i64.wrap ((j2 : Int) + 1) = ((j2 + 1 : Nat) : Int) := (IntWalk.i64_in _ (by omega)).trans (by omega)
          have hw3 : IntKind.i64.wrap (((j2 + 1 : Nat)) : Int) = ((j2 + 1 : Nat) : Int) := IntWalk.i64_in _ (by omega)
          have hk6 : (0 : Int) ≤ ((j2 + 1 : Nat) : Int) := by omega
          have hk7 : ((j2 + 1 : Nat) : Int) < (m : Int) := by omega
          go_upto_region 15 with (fail)
          go_region_held3 (fun W => W.cell? ⟨g6, j2, none⟩ = some (.int .i64 x) ∧ W.cell? ⟨g6, j2 + 1, none⟩ = some (.int .i64 y))
            (first | (with_reducible exact HX.out _ _ _ hT9) | (with_reducible exact ⟨d0, d1⟩) | go_keep)
            (first
              | (go_at_call 40; ((with_reducible refine (HN1.out _ hbd).mono ?_); rintro e V ⟨rfl, rfl⟩))
              | (go_at_call 40; ((with_reducible refine (HN2.out _ hbd).mono ?_); rintro e V ⟨rfl, rfl⟩))
              | ((with_reducible refine step_app_gm rfl _ _ rfl hTd b hb hjn rfl rfl ?_); intro A4 c4 V hT9))
          clear hw1 hw3 hk6 hk7
          go_wp2_with fail
          go_roundw
          case rel => exact ⟨j + 1, j2 + 2, A4, c4, by omega, by omega, by go_num, rfl, by rw [hsn.out]; exact hT9.tail⟩
          case measure => simp [intOf]; omega
        · obtain rfl : j = q := by omega
          have hqm := HQ.out
          have hown : wr.ownsRow w.heap.size 35 2 (.slice A3 j c3) j ((twos (whoF who) (P.take j2)).flatMap gmC) := hT.head
          rw [List.take_of_length_le (by rw [HPL.out]; omega), ← HB.out] at hown
          have hlen : Hid ((brkL who).length = j) := Lib.hid (by rw [HB.out, twos_len, HPL.out]; omega)
          have hBw := hT.below
          have hk1 : ¬ ((j2 : Int) + 1 < (m : Int)) := by omega
          clear hqm
          go_wp2_with fail
          go_ret
          exact ⟨_, rfl, by rw [hlen.out]; exact hown, hBw⟩
end Go.Proofs.Ytejadhehmcifoaa
