/-
  splitref2.EventsOf by a contract. (Printed by gen_mrg.py.)
-/
import Derived.Test.YtebaaoacmmhppaaGreatZCmq
import Derived.Test.YtebaaoacmmhppaaGreatZDk5
import Derived.Test.YtebaaoacmmhppaaGreatZSk7
import Derived.Test.YtebaaoacmmhppaaGreatZEv1W
namespace Go.Proofs.YtebaaoacmmhppaaGreat
open Go Go.RowKit Go.Sort
attribute [local go_sem ↓] Go.wp_at_zero Go.wp_at_succ

set_option maxRecDepth 100000 in
set_option maxHeartbeats 4000000 in
theorem eventsOf_calls (b : Nat) (A1 A2 : Option Addr) (n1 c1 n2 c2 : Nat) (xs ys : List Bev) (w : World) (hr1 : Bevs w b A1 n1 c1 xs) (hr2 : Bevs w b A2 n2 c2 ys) (hn : n1 + n2 ≤ 39) :
    Calls Tryz.prog 33 #[.slice A1 n1 c1, .slice A2 n2 c2] w (MgR w (mrgL xs ys)) := by
  obtain ⟨hx1, _, _, _⟩ := hr1.rd.cells bevC_len (by omega)
  obtain ⟨hx2, _, _, _⟩ := hr2.rd.cells bevC_len (by omega)
  have h1 := hr1.rd
  have h2 := hr2.rd
  obtain ⟨zs, hzs⟩ : ∃ zs, xs ++ ys = zs := ⟨_, rfl⟩
  have HCC : Hid (∀ (W : World) (G : Nat), Below w.heap.size w W → W.heap.size = G → Calls Tryz.prog 68 #[.slice (some ⟨G, 0, none⟩) 2 2] (W.alloc (.cells #[.slice A1 n1 c1, .slice A2 n2 c2] 26)) (fun e w' => ∃ v, e = .returned v ∧ w'.ownsRow (W.alloc (.cells #[.slice A1 n1 c1, .slice A2 n2 c2] 26)).heap.size 62 8 v (n1 + n2) (zs.flatMap bevC) ∧ Below (W.alloc (.cells #[.slice A1 n1 c1, .slice A2 n2 c2] 26)).heap.size (W.alloc (.cells #[.slice A1 n1 c1, .slice A2 n2 c2] 26)) w')) := Lib.hid (fun W G hW hG => by
    subst hG
    have hW2 := hW.alloc hW.size (.cells #[.slice A1 n1 c1, .slice A2 n2 c2] 26)
    have := concatEv_calls b W.heap.size A1 A2 n1 c1 n2 c2 (xs.flatMap bevC) (ys.flatMap bevC) _ (Blk.new W _ _) (h1.below hW2) (h2.below hW2) (bevC_oneL xs) (bevC_oneL ys) (by omega) (by omega)
    rw [← List.flatMap_append, hzs] at this
    exact this)
  obtain ⟨N, hN⟩ : ∃ N, n1 + n2 = N := ⟨_, rfl⟩
  have hNb : N ≤ 39 := by omega
  rw [hN] at HCC
  have hzl : zs.length = N := by rw [← hzs, List.length_append, hx1, hx2]; exact hN
  have HSO := Lib.hid (fun (W : World) (A : Option Addr) (c : Nat) h => sortEv_calls w.heap.size W A N c zs hzl hNb h)
  have hql : (sev zs).length = N := by rw [sev_len]; exact hzl
  have HCQ := Lib.hid (fun (W : World) (A : Option Addr) (c : Nat) h => compactEq_calls w.heap.size W A N c (sev zs) (by omega) hql h)
  have hmr : mrgL xs ys = cpQ (sev zs) (sev zs).length := by unfold mrgL; rw [hzs]
  obtain ⟨L, hL⟩ : ∃ L, mrgL xs ys = L := ⟨_, rfl⟩
  have HLN : Hid (L.length ≤ 39) := Lib.hid (by rw [← hL]; have := mrgL_len xs ys; omega)
  have HLQ : Hid (cpQ (sev zs) (sev zs).length = L) := Lib.hid (by rw [← hmr]; exact hL)
  rw [hL]
  clear hzs hzl hql hmr hL h1 h2 hr1 hr2 hx1 hx2 hN
  have hS4 := Sq.start w
  have HC4 := Lib.hid (HCC.out _ _ hS4.below rfl)
  clear HCC
  go_enter Tryz.func33, Tryz.ntmps33
  go_wp2_with fail
  with_reducible refine HC4.out.mono ?_
  rintro e w5 ⟨V, rfl, hown, hb5⟩
  have hS5 := (hS4.alloc (.cells #[.slice A1 n1 c1, .slice A2 n2 c2] 26)).ownB hb5 hown
  obtain ⟨VA, Vc, rfl⟩ := own_form hown
  clear hown hb5 hS4
  go_wp2_with fail
  refine (HSO.out _ _ _ hS5.head).mono ?_
  rintro e w6 ⟨rfl, ho6, hg6⟩
  have hS6 := hS5.append ho6 hg6 (.inl rfl)
  clear ho6 hg6 hS5 HSO
  go_wp2_with fail
  refine (HCQ.out _ _ _ hS6.head).mono ?_
  rintro e w7 ⟨A7, c7, rfl, ho7, hg7, hv7⟩
  rw [HLQ.out] at ho7 hv7 ⊢
  have hS7 := hS6.append ho7 hg7 (.inl hv7)
  clear ho7 hg7 hv7 hS6 HCQ HLQ
  obtain ⟨m, hm⟩ : ∃ m, L.length = m := ⟨_, rfl⟩
  have HM := Lib.hid hm
  have hm39 : m ≤ 39 := by rw [← hm]; exact HLN.out
  rw [hm] at hS7 ⊢
  clear hm HLN
  have hm2 : ¬ (2000 : Int) < (m : Int) := by omega
  go_wp2_with fail
  go_loopw [18] (fun s wr => ∃ k : Nat, k ≤ m ∧ s = .int .i64 k ∧ Hid (∀ t, t < k → dupM L t = false) ∧ Sq w wr [rOwn w.heap.size 62 8 (.slice A7 m c7) m (L.flatMap bevC)]) (fun s _ => m - (intOf s).toNat)
  case atStart => exact ⟨0, Nat.zero_le _, rfl, Lib.hid (fun t ht => absurd ht (Nat.not_lt_zero _)), hS7⟩
  case round =>
    clear hS7
    obtain ⟨k, hk1, rfl, HD, hS⟩ := hrel
    by_cases hlt : k < m
    · rcases Nat.eq_zero_or_pos k with h0 | h0
      · subst h0
        have hkn : (0 : Int) < (m : Int) := by omega
        go_upto_region 7 with (fail)
        refine wp_region_held_drew (S := fun _ => True) (by kernel_rfl) trivial (fun hHeld => ?_)
        refine tkY 0 (.int .i64 0) rfl hHeld ?_
        refine tkY 1 (.bool false) rfl hHeld ?_
        refine tkY 2 (.bool false) rfl hHeld ?_
        refine tkN 3 rfl hHeld ?_
        refine tkN 4 rfl hHeld ?_
        refine tkN 5 rfl hHeld ?_
        refine tkN 6 rfl hHeld ?_
        refine tkN 7 rfl hHeld ?_
        refine tkN 8 rfl hHeld ?_
        refine tkN 9 rfl hHeld ?_
        refine tkN 10 rfl hHeld ?_
        refine tkN 11 rfl hHeld ?_
        refine tkN 12 rfl hHeld ?_
        refine tkN 13 rfl hHeld ?_
        refine tkY 14 (.bool false) rfl hHeld ?_
        refine wpAnyH_done (by kernel_rfl) ?_ _
        have hS8 := hS.callB (below_drewN (Below.refl _ _) 1)
        clear hS hHeld
        go_wp2_with fail
        go_roundw
        case rel => exact ⟨1, by omega, rfl, Lib.hid (fun t ht => by obtain rfl : t = 0 := (by omega); rfl), hS8⟩
        case measure => simp [intOf]; omega
      · obtain ⟨j, hj⟩ : ∃ j, k = j + 1 := ⟨k - 1, by omega⟩
        subst hj
        have hkp : j + 1 < L.length := by rw [HM.out]; exact hlt
        obtain ⟨g, hg⟩ := own_ptr (hS.head : World.ownsRow _ _ _ _ _ _ _) (by omega)
        subst hg
        obtain ⟨p0, p1, p2, p3, p4, p5, p6, p7⟩ := ev_cells (hS.head : World.ownsRow _ _ _ _ _ _ _) j (by omega) (by omega)
        obtain ⟨q0, q1, q2, q3, q4, q5, q6, q7⟩ := ev_cells (hS.head : World.ownsRow _ _ _ _ _ _ _) (j + 1) hkp hlt
        have hdu := dupM_at hkp
        obtain ⟨⟨a0, a1, a2, a3, a4, a5, a6, a7⟩, hx⟩ : ∃ x, L[j] = x := ⟨_, rfl⟩
        obtain ⟨⟨b0, b1, b2, b3, b4, b5, b6, b7⟩, hy⟩ : ∃ x, L[j + 1] = x := ⟨_, rfl⟩
        rw [hx] at p0 p1 p2 p3 p4 p5 p6 p7 hdu
        rw [hy] at q0 q1 q2 q3 q4 q5 q6 q7 hdu
        simp only at p0 p1 p2 p3 p4 p5 p6 p7 q0 q1 q2 q3 q4 q5 q6 q7
        obtain ⟨K1, hK1⟩ : ∃ K1, j + 1 = K1 := ⟨_, rfl⟩
        rw [hK1] at hk1 hdu hkp hlt q0 q1 q2 q3 q4 q5 q6 q7 HD ⊢
        have HC2 : Hid (∀ V, Below wr.heap.size wr V → V.cell? ⟨g, j * 8, none⟩ = some (.int .i64 a0) ∧ V.cell? ⟨g, j * 8 + 1, none⟩ = some (.int .i64 a1) ∧ V.cell? ⟨g, j * 8 + 2, none⟩ = some (.string a2) ∧ V.cell? ⟨g, j * 8 + 3, none⟩ = some (.string a3) ∧ V.cell? ⟨g, j * 8 + 4, none⟩ = some (.string a4) ∧ V.cell? ⟨g, j * 8 + 5, none⟩ = some (.string a5) ∧ V.cell? ⟨g, j * 8 + 6, none⟩ = some (.int .i64 a6) ∧ V.cell? ⟨g, j * 8 + 7, none⟩ = some (.int .i64 a7) ∧ V.cell? ⟨g, K1 * 8, none⟩ = some (.int .i64 b0) ∧ V.cell? ⟨g, K1 * 8 + 1, none⟩ = some (.int .i64 b1) ∧ V.cell? ⟨g, K1 * 8 + 2, none⟩ = some (.string b2) ∧ V.cell? ⟨g, K1 * 8 + 3, none⟩ = some (.string b3) ∧ V.cell? ⟨g, K1 * 8 + 4, none⟩ = some (.string b4) ∧ V.cell? ⟨g, K1 * 8 + 5, none⟩ = some (.string b5) ∧ V.cell? ⟨g, K1 * 8 + 6, none⟩ = some (.int .i64 b6) ∧ V.cell? ⟨g, K1 * 8 + 7, none⟩ = some (.int .i64 b7)) := Lib.hid (fun V h => ⟨below_cell h p0, below_cell h p1, below_cell h p2, below_cell h p3, below_cell h p4, below_cell h p5, below_cell h p6, below_cell h p7, below_cell h q0, below_cell h q1, below_cell h q2, below_cell h q3, below_cell h q4, below_cell h q5, below_cell h q6, below_cell h q7⟩)
        have S1 : Below wr.heap.size wr wr.drew := below_drewN (Below.refl _ _) 1
        have hj0 : (0 : Int) ≤ (j : Int) := by omega
        have hjn : (j : Int) < (m : Int) := by omega
        have hk0 : (0 : Int) ≤ (K1 : Int) := by omega
        have hg0 : (0 : Int) < (K1 : Int) := by omega
        have hgd : decide ((0 : Int) < (K1 : Int)) = true := decide_eq_true hg0
        have hkn : (K1 : Int) < (m : Int) := by omega
        have hj1 : (K1 : Int) - 1 = (j : Int) := by omega
        have hw3 : IntKind.i64.wrap (j : Int) = (j : Int) := IntWalk.i64_in _ (by omega)
        obtain ⟨O, hO⟩ : ∃ O, ordBev ⟨a0, a1, a2, a3, a4, a5, a6, a7⟩ ⟨b0, b1, b2, b3, b4, b5, b6, b7⟩ = O := ⟨_, rfl⟩
        rw [hO] at hdu
        have HO := Lib.hid hO
        have HDU := Lib.hid hdu
        have HS := Lib.hid hS
        clear p0 p1 p2 p3 p4 p5 p6 p7 q0 q1 q2 q3 q4 q5 q6 q7 hx hy hO hdu hS
        have HBM : Hid (∀ W, Calls Tryz.prog 42 #[.agg #[.int .i64 a0, .int .i64 a1, .string a2, .string a3, .string a4, .string a5, .int .i64 a6, .int .i64 a7], .agg #[.int .i64 b0, .int .i64 b1, .string b2, .string b3, .string b4, .string b5, .int .i64 b6, .int .i64 b7]] W (fun e w' => e = .returned (.int .i64 O) ∧ Gw W w')) := Lib.hid (fun W => by rw [← HO.out]; exact eventOrderG_calls a0 a1 a6 a7 b0 b1 b6 b7 a2 a3 a4 a5 b2 b3 b4 b5 W)
        go_upto_region 7 with (fail)
        refine wp_region_held_drew (S := fun V => V.cell? ⟨g, j * 8, none⟩ = some (.int .i64 a0) ∧ V.cell? ⟨g, j * 8 + 1, none⟩ = some (.int .i64 a1) ∧ V.cell? ⟨g, j * 8 + 2, none⟩ = some (.string a2) ∧ V.cell? ⟨g, j * 8 + 3, none⟩ = some (.string a3) ∧ V.cell? ⟨g, j * 8 + 4, none⟩ = some (.string a4) ∧ V.cell? ⟨g, j * 8 + 5, none⟩ = some (.string a5) ∧ V.cell? ⟨g, j * 8 + 6, none⟩ = some (.int .i64 a6) ∧ V.cell? ⟨g, j * 8 + 7, none⟩ = some (.int .i64 a7) ∧ V.cell? ⟨g, K1 * 8, none⟩ = some (.int .i64 b0) ∧ V.cell? ⟨g, K1 * 8 + 1, none⟩ = some (.int .i64 b1) ∧ V.cell? ⟨g, K1 * 8 + 2, none⟩ = some (.string b2) ∧ V.cell? ⟨g, K1 * 8 + 3, none⟩ = some (.string b3) ∧ V.cell? ⟨g, K1 * 8 + 4, none⟩ = some (.string b4) ∧ V.cell? ⟨g, K1 * 8 + 5, none⟩ = some (.string b5) ∧ V.cell? ⟨g, K1 * 8 + 6, none⟩ = some (.int .i64 b6) ∧ V.cell? ⟨g, K1 * 8 + 7, none⟩ = some (.int .i64 b7)) (by kernel_rfl) (HC2.out _ S1) (fun hHeld => ?_)
        refine tkY 0 (.int .i64 K1) rfl hHeld ?_
        refine tkY 1 (.bool true) rfl hHeld ?_
        refine tkY 2 (.bool true) rfl hHeld ?_
        refine tkY 3 (.slice (some ⟨g, 0, none⟩) m c7) rfl hHeld ?_
        refine tkY 4 (.int .i64 K1) rfl hHeld ?_
        refine tkY 5 (.int .i64 j) rfl hHeld ?_
        refine tkY 6 (.pointer (some ⟨g, j * 8, none⟩)) rfl hHeld ?_
        refine tkY 7 (.agg #[.int .i64 a0, .int .i64 a1, .string a2, .string a3, .string a4, .string a5, .int .i64 a6, .int .i64 a7]) rfl hHeld ?_
        refine tkY 8 (.slice (some ⟨g, 0, none⟩) m c7) rfl hHeld ?_
        refine tkY 9 (.int .i64 K1) rfl hHeld ?_
        refine tkY 10 (.pointer (some ⟨g, K1 * 8, none⟩)) rfl hHeld ?_
        refine tkY 11 (.agg #[.int .i64 b0, .int .i64 b1, .string b2, .string b3, .string b4, .string b5, .int .i64 b6, .int .i64 b7]) rfl hHeld ?_
        refine tkC 12 rfl (fun K hK => ?_)
        go_simp
        go_at_call 42
        refine (HBM.out _).mono ?_
        rintro e w8 ⟨rfl, hb8⟩
        have S5 := below_call S1 (below_gw hb8) (Nat.le_refl _)
        refine hK.out _ _ (HC2.out _ S5) (fun hHeld => ?_)
        clear hK K
        try simp only [Act.put, List.getElem_toArray, List.getElem_cons_zero, List.getElem_cons_succ, List.setIfInBounds_toArray, List.set_cons_zero, List.set_cons_succ]
        refine tkY 13 (.bool (decide (O = 0))) rfl hHeld ?_
        refine tkY 14 (.bool (decide (O = 0))) rfl hHeld ?_
        refine wpAnyH_done (by kernel_rfl) ?_ _
        have hS8 := HS.out.callB S5
        clear HC2 S1 S5 hb8 hHeld HS HBM HO
        cases hB : decide (O = 0)
        · have HDU2 : Hid (dupM L K1 = false) := Lib.hid (HDU.out.trans hB)
          go_wp2_with fail
          go_roundw
          case rel => exact ⟨K1 + 1, by omega, by go_num, Lib.hid (fun t ht => by
            rcases Nat.lt_or_ge t K1 with h | h
            · exact HD.out t h
            · obtain rfl : t = K1 := (by omega)
              exact HDU2.out), hS8⟩
          case measure => simp [intOf]; omega
        · have HY := Lib.hid (conM_yes hkp (HDU.out.trans hB))
          go_wp2_with fail
          go_ret2
          exact ⟨hS8.below, .inl ⟨HY.out, rfl⟩⟩
    · have HNO : Hid (conM L = false) := Lib.hid (conM_no (fun t ht => HD.out t (by rw [HM.out] at ht; omega)))
      have hb := hS.below
      have ho : wr.ownsRow w.heap.size 62 8 (.slice A7 m c7) m (L.flatMap bevC) := hS.head
      clear hS HD
      go_wp2_with fail
      go_ret2
      exact ⟨hb, .inr ⟨HNO.out, A7, c7, by rw [HM.out]; rfl, by rw [HM.out]; exact ho⟩⟩
end Go.Proofs.YtebaaoacmmhppaaGreat
/-
  board.State and splitref2.StateOf by contracts; board.momentFault.
-/
namespace Go.Proofs.YtebaaoacmmhppaaGreat
open Go Go.RowKit
attribute [local go_sem ↓] Go.wp_at_zero Go.wp_at_succ

/-- what is wrong with events and a moment -/
def momF (l : List Bev) (u : Int) : Int := if bevsF l = 0 then (if momB u = true then 0 else 1) else bevsF l
theorem momF_ok {l : List Bev} {u : Int} (h : momF l u = 0) : bevsF l = 0 := by
  unfold momF at h
  split at h
  · assumption
  · rename_i h2; exact absurd h h2
set_option maxRecDepth 100000 in
theorem bMomentFault_calls (b : Nat) (A : Option Addr) (n c : Nat) (l : List Bev) (u : Int) (w : World) (hr : Bevs w b A n c l) :
    Calls Tryz.prog 73 #[.slice A n c, .int .i64 u] w (BRet (.int .i64 (momF l u)) w) := by
  have HA := Lib.hid (checkEvents_calls b A n c l w hr)
  have HM := Lib.hid (fun W => moment_calls u W)
  have hF : momF l u = if bevsF l = 0 then (if momB u = true then 0 else 1) else bevsF l := rfl
  obtain ⟨E, hE⟩ : ∃ E, bevsF l = E := ⟨_, rfl⟩
  obtain ⟨M, hM⟩ : ∃ M, momB u = M := ⟨_, rfl⟩
  rw [hE, hM] at hF
  rw [hE] at HA
  rw [hM] at HM
  rw [hF]
  clear hr hE hM hF
  by_cases h0 : E = 0
  · subst h0
    rw [if_pos rfl]
    cases M
    · rw [if_neg (by decide)]
      go_enter Tryz.func73, Tryz.ntmps73
      go_upto_region 2 with (first | (go_at_call 37; refine HA.out.mono ?_; rintro e w1 ⟨rfl, h1⟩))
      go_wp2_with (first | (go_at_call 56; refine (HM.out _).mono ?_; rintro e w2 ⟨rfl, rfl⟩))
      go_ret
      exact ⟨rfl, h1⟩
    · rw [if_pos rfl]
      go_enter Tryz.func73, Tryz.ntmps73
      go_upto_region 2 with (first | (go_at_call 37; refine HA.out.mono ?_; rintro e w1 ⟨rfl, h1⟩))
      go_wp2_with (first | (go_at_call 56; refine (HM.out _).mono ?_; rintro e w2 ⟨rfl, rfl⟩))
      go_ret
      exact ⟨rfl, h1⟩
  · rw [if_neg h0]
    have hx : (E == 0) = false := by simpa using h0
    go_enter Tryz.func73, Tryz.ntmps73
    go_wp2_with (first | (go_at_call 37; refine HA.out.mono ?_; rintro e w1 ⟨rfl, h1⟩))
    go_ret
    exact ⟨rfl, h1⟩
/-- how a run is: its word, and the error -/
def sttT (l : List Bev) (id : ByteArray) (u : Int) : ByteArray := match rnOf (folE l u).1 id with
  | some r => hwV r.2
  | none => noBev
def sttE (l : List Bev) (id : ByteArray) (u : Int) : Int := match rnOf (folE l u).1 id with
  | some _ => 0
  | none => 8
set_option maxRecDepth 100000 in
set_option maxHeartbeats 4000000 in
theorem state_calls (b : Nat) (A : Option Addr) (n c : Nat) (l : List Bev) (u : Int) (id : ByteArray) (w : World) (hr : Bevs w b A n c l) (hn : n ≤ 3000) (hi : id.size ≤ 1000000) :
    Calls Tryz.prog 31 #[.slice A n c, .string id, .int .i64 u] w (fun e w' => e = .returned (.tuple #[.string (if momF l u = 0 then sttT l id u else noBev), .int .i64 (if momF l u = 0 then sttE l id u else momF l u)]) ∧ Below w.heap.size w w') := by
  have HC := Lib.hid (bMomentFault_calls b A n c l u w hr)
  have HR := Lib.hid hr.rd
  obtain ⟨F, hF⟩ : ∃ F, momF l u = F := ⟨_, rfl⟩
  rw [hF] at HC ⊢
  have HE : Hid (F = 0 → ∀ x ∈ l, EvK x) := Lib.hid (fun h => evK_all (momF_ok (hF.trans h)))
  clear hr hF
  by_cases h0 : F = 0
  · subst h0
    rw [if_pos rfl, if_pos rfl]
    have HE0 := Lib.hid (HE.out rfl)
    clear HE
    obtain ⟨T, hT⟩ : ∃ T, sttT l id u = T := ⟨_, rfl⟩
    obtain ⟨G, hG⟩ : ∃ G, sttE l id u = G := ⟨_, rfl⟩
    have HT := Lib.hid hT
    have HG := Lib.hid hG
    rw [hT, hG]
    clear hT hG
    go_enter Tryz.func31, Tryz.ntmps31
    go_wp2_with fail
    refine HC.out.mono ?_
    rintro e w1 ⟨rfl, hb1⟩
    have HAT := Lib.hid (atD_calls b A n c l u w1 (HR.out.below hb1) HE0.out hn)
    have HB1 := Lib.hid hb1
    clear hb1 HC
    go_wp2_with fail
    refine HAT.out.mono ?_
    rintro e w2 ⟨gd, m1, m2, n1, n2, L, rfl, h1, h2, h3, h4, h5⟩
    have hrn := ptOf_rn h1 id
    unfold dskL at h5
    have k0 := (h5.head : Blk w2 gd _ _).cell 0
    have hmp : MapS w2 9 m1 n1 (ptF L) := h5.nth 1 rfl
    have lk := hmp.look (t := 102) (e := 85) Tryz.underlying9 Tryz.underlying102 (zero_run w2) (s := id) (by unfold maxLen; omega)
    have HFI := Lib.hid (below_call HB1.out h5.below (Nat.le_refl _))
    cases hp : ptOf L id with
    | none =>
      rw [hp] at hrn
      have hT : T = noBev := by rw [← HT.out]; unfold sttT; rw [hrn]; rfl
      have hG : G = 8 := by rw [← HG.out]; unfold sttE; rw [hrn]; rfl
      subst hT hG
      have hv : ptF L id = none := by unfold ptF; rw [hp]; rfl
      rw [hv] at lk
      clear h1 h2 h3 h4 h5 hmp hrn hp hv HAT HT HG
      go_wp2_with fail
      go_ret2
      exact ⟨rfl, HFI.out⟩
    | some x =>
      obtain ⟨g, r, k⟩ := x
      rw [hp] at hrn
      have hT : T = hwV k := by rw [← HT.out]; unfold sttT; rw [hrn]; rfl
      have hG : G = 0 := by rw [← HG.out]; unfold sttE; rw [hrn]; rfl
      subst hT hG
      have hv : ptF L id = some (.pointer (some ⟨g, 0, none⟩)) := by unfold ptF; rw [hp]; rfl
      rw [hv] at lk
      have hall : ∀ a ∈ L, (rRun a).P w2 := h5.nth 3 rfl
      have hb : Blk w2 g 87 (runC (r, k)).toArray := hall _ (ptOf_mem hp).1
      have b8 := hb.cell 8
      replace b8 : w2.cell? ⟨g, 8, none⟩ = some (.string (hwV k)) := b8
      obtain ⟨hs, hhs⟩ : ∃ z, hwV k = z := ⟨_, rfl⟩
      rw [hhs] at b8
      have HH := Lib.hid hhs
      clear h1 h2 h3 h4 h5 hmp hrn hp hv HAT HT HG hall hb hhs
      go_wp2_with fail
      go_ret2
      exact ⟨by rw [HH.out]; rfl, HFI.out⟩
  · rw [if_neg h0, if_neg h0]
    have hne : (F != 0) = true := by rw [bne_iff_ne]; exact h0
    go_enter Tryz.func31, Tryz.ntmps31
    go_wp2_with fail
    refine HC.out.mono ?_
    rintro e w1 ⟨rfl, hb1⟩
    go_wp2_with fail
    go_ret2
    exact ⟨rfl, hb1⟩
theorem hw_some (k : Nat) : ((hwV k).toList == []) = false := by
  unfold hwV
  split <;> (rw [Lib.toList_data]; decide)
set_option maxRecDepth 100000 in
set_option maxHeartbeats 4000000 in
theorem stateOf_calls (b : Nat) (A : Option Addr) (n c : Nat) (l : List Bev) (u : Int) (id : ByteArray) (w : World) (hr : Rd w b 8 (.slice A n c) n (l.flatMap bevC)) (hk : ∀ x ∈ l, EvK x) (hn : n ≤ 3000) (hi : id.size ≤ 1000000) :
    Calls Tryz.prog 36 #[.slice A n c, .string id, .int .i64 u] w (fun e w' => e = .returned (.tuple #[.string (sttT l id u), .int .i64 (sttE l id u)]) ∧ Below w.heap.size w w') := by
  have HA := Lib.hid (siteAt_calls b A n c l u w hr hk hn)
  obtain ⟨T, hT⟩ : ∃ T, sttT l id u = T := ⟨_, rfl⟩
  obtain ⟨G, hG⟩ : ∃ G, sttE l id u = G := ⟨_, rfl⟩
  have HT := Lib.hid hT
  have HG := Lib.hid hG
  rw [hT, hG]
  clear hr hk hT hG
  go_enter Tryz.func36, Tryz.ntmps36
  go_wp2_with fail
  refine HA.out.mono ?_
  rintro e w2 ⟨gs, m1, m2, m3, n1, n2, n3, V, rfl, hK, h1, h2, h3, hS2⟩
  unfold sitL at hS2
  have k1 := (hS2.head : Blk w2 gs _ _).cell 1
  have hM2 : MapS w2 9 m2 n2 (stF (folE l u).1) := hS2.nth 2 rfl
  have lk := hM2.look (t := 107) (e := 9) Tryz.underlying9 Tryz.underlying107 (zero_str w2) (s := id) (by unfold maxLen; omega)
  have HFI := Lib.hid hS2.below
  cases hp : rnOf (folE l u).1 id with
  | none =>
    have hTT : T = noBev := by rw [← HT.out]; unfold sttT; rw [hp]
    have hGG : G = 8 := by rw [← HG.out]; unfold sttE; rw [hp]
    subst hTT hGG
    have hv : stF (folE l u).1 id = none := by unfold stF; rw [hp]; rfl
    rw [hv] at lk
    replace lk : (Instr.lookup 107 (.map (some m2)) (.string id) false).run Tryz.prog w2 = .ok (.string ⟨#[]⟩) w2 := lk
    have e0 : ((⟨#[]⟩ : ByteArray).toList == []) = true := by kernel_rfl
    clear hK h1 h2 h3 hS2 hM2 hp hv HA HT HG
    go_wp2_with fail
    go_ret2
    exact ⟨rfl, HFI.out⟩
  | some x =>
    obtain ⟨r, k⟩ := x
    have hTT : T = hwV k := by rw [← HT.out]; unfold sttT; rw [hp]
    have hGG : G = 0 := by rw [← HG.out]; unfold sttE; rw [hp]
    subst hTT hGG
    have hv : stF (folE l u).1 id = some (.string (hwV k)) := by unfold stF; rw [hp]; rfl
    rw [hv] at lk
    replace lk : (Instr.lookup 107 (.map (some m2)) (.string id) false).run Tryz.prog w2 = .ok (.string (hwV k)) w2 := lk
    have e0 := hw_some k
    obtain ⟨hs, hhs⟩ : ∃ z, hwV k = z := ⟨_, rfl⟩
    rw [hhs] at lk e0
    have HH := Lib.hid hhs
    clear hK h1 h2 h3 hS2 hM2 hp hv HA HT HG hhs
    go_wp2_with fail
    go_ret2
    exact ⟨by rw [HH.out]; rfl, HFI.out⟩
end Go.Proofs.YtebaaoacmmhppaaGreat
/-
  What Merge answers, of both sides, in one word.
-/
namespace Go.Proofs.YtebaaoacmmhppaaGreat
open Go Go.RowKit Go.Sort

def mgE (xs ys : List Bev) : Int := if firstE [bevsF xs, bevsF ys] = 0 then (if conM (mrgL xs ys) = true then 13 else 0) else firstE [bevsF xs, bevsF ys]
def mgM (xs ys : List Bev) : List Bev := if firstE [bevsF xs, bevsF ys] = 0 then (if conM (mrgL xs ys) = true then [] else mrgL xs ys) else []
def MgO (w : World) (E : Int) (M : List Bev) (e : Ending) (w' : World) : Prop :=
  ∃ (A : Option Addr) (c : Nat), e = .returned (.tuple #[.slice A M.length c, .int .i64 E]) ∧ Sq w w' [rOwn w.heap.size 62 8 (.slice A M.length c) M.length (M.flatMap bevC)]
theorem MgR.o {w w' : World} {xs ys : List Bev} {e : Ending} (h : MgR w (mrgL xs ys) e w') (h0 : firstE [bevsF xs, bevsF ys] = 0) : MgO w (mgE xs ys) (mgM xs ys) e w' := by
  unfold mgE mgM
  rw [if_pos h0, if_pos h0]
  obtain ⟨hb, ⟨hc, he⟩ | ⟨hc, A, c, he, ho⟩⟩ := h
  · rw [if_pos hc, if_pos hc]
    exact ⟨none, 0, he, ((Sq.start w).callB hb).nil _ _ _⟩
  · rw [if_neg (by rw [hc]; decide), if_neg (by rw [hc]; decide)]
    exact ⟨A, c, he, (Sq.start w).ownB hb ho⟩
theorem mg_bad {xs ys : List Bev} (h : firstE [bevsF xs, bevsF ys] ≠ 0) : mgE xs ys = firstE [bevsF xs, bevsF ys] ∧ mgM xs ys = [] := by
  unfold mgE mgM
  rw [if_neg h, if_neg h]
  exact ⟨rfl, rfl⟩
theorem mergeO_calls (b : Nat) (A1 A2 : Option Addr) (n1 c1 n2 c2 : Nat) (xs ys : List Bev) (w : World) (hr1 : Bevs w b A1 n1 c1 xs) (hr2 : Bevs w b A2 n2 c2 ys) (hn : n1 + n2 ≤ 39) :
    Calls Tryz.prog 29 #[.slice A1 n1 c1, .slice A2 n2 c2] w (MgO w (mgE xs ys) (mgM xs ys)) := by
  refine (merge_calls b A1 A2 n1 c1 n2 c2 xs ys w hr1 hr2 hn).mono ?_
  rintro e w' (⟨h0, he, hb⟩ | ⟨h0, h⟩)
  · obtain ⟨h1, h2⟩ := mg_bad h0
    rw [h1, h2]
    exact ⟨none, 0, he, ((Sq.start w).callB hb).nil _ _ _⟩
  · exact h.o h0
theorem eventsOfO_calls (b : Nat) (A1 A2 : Option Addr) (n1 c1 n2 c2 : Nat) (xs ys : List Bev) (w : World) (hr1 : Bevs w b A1 n1 c1 xs) (hr2 : Bevs w b A2 n2 c2 ys) (hn : n1 + n2 ≤ 39) (h0 : firstE [bevsF xs, bevsF ys] = 0) :
    Calls Tryz.prog 33 #[.slice A1 n1 c1, .slice A2 n2 c2] w (MgO w (mgE xs ys) (mgM xs ys)) :=
  (eventsOf_calls b A1 A2 n1 c1 n2 c2 xs ys w hr1 hr2 hn).mono fun _ _ h => h.o h0
/-- what is behind the first m elements -/
theorem Rd.dropE {w : World} {b n c g o : Nat} {rs : List Bev} (h : Rd w b 8 (.slice (some ⟨g, o, none⟩) n c) n (rs.flatMap bevC)) (m : Nat) (hm : m ≤ n) :
    Rd w b 8 (.slice (some ⟨g, o + m * 8, none⟩) (n - m) (c - m)) (n - m) ((rs.drop m).flatMap bevC) := by
  obtain ⟨hl, h1, h2, h3⟩ := h.cells bevC_len (by omega)
  refine ⟨_, _, rfl, by omega, by omega, by rw [flat_len bevC 8 bevC_len, List.length_drop, hl], (fun e => by cases e), fun hn => ?_⟩
  obtain ⟨g', o', e1, e2, e3⟩ := h3 (by omega)
  injection e1 with e1
  injection e1 with e1 e4
  subst e1 e4
  refine ⟨g, o + m * 8, rfl, e2, fun j u hu => ?_⟩
  have hj : j < (n - m) * 8 := by
    have := (List.getElem?_eq_some_iff.1 hu).1
    rw [flat_len bevC 8 bevC_len, List.length_drop, hl] at this
    exact this
  obtain ⟨i, r, hi, hr, hjr⟩ : ∃ i r, i < n - m ∧ r < 8 ∧ j = i * 8 + r := ⟨j / 8, j % 8, by omega, Nat.mod_lt _ (by omega), by omega⟩
  subst hjr
  have hx := e3 (m + i) (by omega) r hr
  have hi2 : i < (rs.drop m).length := by rw [List.length_drop, hl]; exact hi
  rw [flat_get bevC 8 bevC_len (rs.drop m) i r hi2 hr, List.getElem_drop] at hu
  rw [hu] at hx
  rw [← hx]
  congr 2
  omega
theorem mom_first (l : List Bev) (u : Int) : firstE [bevsF l, if momB u = true then 0 else 1] = momF l u := by
  unfold momF
  by_cases h : bevsF l = 0
  · rw [if_pos h, h]
    cases momB u <;> rfl
  · rw [if_neg h]
    simp [firstE, h]
end Go.Proofs.YtebaaoacmmhppaaGreat
