/-
  EachCentOnce: the law's own walk.
-/
import Derived.Test.YtohhbkodfidfkaaGreatDoorZStream
import Derived.Test.YtohhbkodfidfkaaGreatDoorZEchPure
import Derived.Test.YtohhbkodfidfkaaGreatDoorZBid7
import Derived.Test.YtohhbkodfidfkaaGreatDoorZReady
import Derived.Deep.DeepCutAuto
namespace Go.Proofs.YtohhbkodfidfkaaGreatDoor
open Go Go.RowKit

theorem echA_ok {w : World} {b g : Nat} (h : Blk w g 9 #[.string ⟨#[120]⟩, .string ⟨#[121]⟩, .string ⟨#[122]⟩]) (hg : g ≠ b) : BdOk w b (echA g) :=
  ⟨blkRd 1 3 h hg (by decide) rfl, (show (⟨#[98, 97]⟩ : ByteArray).size ≤ 1000 by decide), (show (⟨#[115, 97]⟩ : ByteArray).size ≤ 1000 by decide), (show ∀ s ∈ ([⟨#[120]⟩, ⟨#[121]⟩, ⟨#[122]⟩] : List ByteArray), s.size ≤ 1000 by decide), (show 3 ≤ 1000 by decide), (show (-2199023255552 : Int) ≤ 0 ∧ (0 : Int) ≤ 2199023255552 by decide)⟩
theorem echB_ok (w : World) (b : Nat) : BdOk w b echB :=
  ⟨Rd.nil _ _ _, (show (⟨#[98, 98]⟩ : ByteArray).size ≤ 1000 by decide), (show (⟨#[115, 97]⟩ : ByteArray).size ≤ 1000 by decide), (show ∀ s ∈ ([] : List ByteArray), s.size ≤ 1000 by decide), (show 0 ≤ 1000 by decide), (show (-2199023255552 : Int) ≤ 50 ∧ (50 : Int) ≤ 2199023255552 by decide)⟩
abbrev bidL (g : Nat) : Array Value := #[.string ⟨#[98, 97]⟩, .string ⟨#[115, 97]⟩, .int .i64 0, .slice (some ⟨g, 0, none⟩) 3 3, .string ⟨#[98, 98]⟩, .string ⟨#[115, 97]⟩, .int .i64 50, .slice none 0 0]
theorem ech_bds {w : World} {b g gB : Nat} (h : Blk w g 9 #[.string ⟨#[120]⟩, .string ⟨#[121]⟩, .string ⟨#[122]⟩]) (hB : Blk w gB 53 (bidL g)) (hg : g ≠ b) (hgB : gB ≠ b) : Bds w b (some ⟨gB, 0, none⟩) 2 2 [echA g, echB] :=
  ⟨blkRd 4 2 hB hgB (by decide) rfl, fun x hx => by
    rcases List.mem_cons.1 hx with rfl | hx
    · exact echA_ok h hg
    · rw [List.mem_singleton.1 hx]; exact echB_ok w b⟩

def pN (x : Gf) : Bool := eqS x.bid ⟨#[]⟩
def pO (o : ByteArray) (x : Gf) : Bool := eqS x.option o
def pB2 (x : Gf) : Bool := eqS x.bid ⟨#[98, 98]⟩
def oK : Nat → ByteArray
  | 0 => ⟨#[120]⟩
  | 1 => ⟨#[121]⟩
  | _ => ⟨#[122]⟩
/-- what the first k options got -/
def oS (gs : List Gf) (at_ : Int) : Nat → Int
  | 0 => 0
  | k + 1 => oS gs at_ k + sm (pO (oK k)) at_ gs
theorem oK_mem (k : Nat) : oK k ∈ [(⟨#[120]⟩ : ByteArray), ⟨#[121]⟩, ⟨#[122]⟩] := by
  unfold oK
  split <;> simp
theorem ech_all {g : Nat} {gs : List Gf} {at_ : Int} (h : giftsF (namedF [echA g, echB]) gs = 0) : sm pN at_ gs + oS gs at_ 3 + sm pB2 at_ gs = totTo gs at_ gs.length := by
  rw [← ech_sum h]
  show sm pN at_ gs + (0 + sm (pO ⟨#[120]⟩) at_ gs + sm (pO ⟨#[121]⟩) at_ gs + sm (pO ⟨#[122]⟩) at_ gs) + sm pB2 at_ gs = sm pN at_ gs + sm (pO ⟨#[120]⟩) at_ gs + sm (pO ⟨#[121]⟩) at_ gs + sm (pO ⟨#[122]⟩) at_ gs + sm pB2 at_ gs
  omega

set_option maxRecDepth 100000 in
set_option maxHeartbeats 8000000 in
theorem ech_walk (a0 : Option Addr) (len0 cap0 : Nat) (z0 : List Int) (w : World) (w0 : InRow w a0 len0 cap0 z0) (ht : Tab w) :
    Calls Tryz.prog 6 #[.slice a0 len0 cap0] w fun e w' => e = .returned (.bool true) ∧ Below w.heap.size w w' := by
  have hs00 := strm_start w0 25
  have hb00 : Bx w.heap.size w.heap.size w (w.alloc (.cells #[.slice a0 len0 cap0, .int .i64 0] 25)) := (Bx.refl _ _ _).alloc (Nat.le_refl _) _
  obtain ⟨wS, hwS⟩ : ∃ W, w.alloc (.cells #[.slice a0 len0 cap0, .int .i64 0] 25) = W := ⟨_, rfl⟩
  have hzS : wS.heap.size = w.heap.size + 1 := by rw [← hwS]; simp
  rw [hwS] at hs00 hb00
  have hs0 := (hs00.alloc (.cells #[.string ⟨#[120]⟩, .string ⟨#[121]⟩, .string ⟨#[122]⟩] 9)).alloc (.cells (bidL wS.heap.size) 53)
  have hb0 := (hb00.alloc (by omega) (.cells #[.string ⟨#[120]⟩, .string ⟨#[121]⟩, .string ⟨#[122]⟩] 9)).alloc (by simp) (.cells (bidL wS.heap.size) 53)
  have hO : Blk ((wS.alloc (.cells #[.string ⟨#[120]⟩, .string ⟨#[121]⟩, .string ⟨#[122]⟩] 9)).alloc (.cells (bidL wS.heap.size) 53)) wS.heap.size 9 #[.string ⟨#[120]⟩, .string ⟨#[121]⟩, .string ⟨#[122]⟩] := (Blk.new wS _ _).below ((Below.refl _ _).alloc (Nat.le_refl _) _)
  have hB : Blk ((wS.alloc (.cells #[.string ⟨#[120]⟩, .string ⟨#[121]⟩, .string ⟨#[122]⟩] 9)).alloc (.cells (bidL wS.heap.size) 53)) (wS.heap.size + 1) 53 (bidL wS.heap.size) := heap_new2 _ _ _
  obtain ⟨gO, hgO⟩ : ∃ g, wS.heap.size = g := ⟨_, rfl⟩
  rw [hgO] at hs0 hb0 hO hB
  obtain ⟨wB, hwB⟩ : ∃ W, (wS.alloc (.cells #[.string ⟨#[120]⟩, .string ⟨#[121]⟩, .string ⟨#[122]⟩] 9)).alloc (.cells (bidL gO) 53) = W := ⟨_, rfl⟩
  rw [hwB] at hs0 hb0 hO hB
  obtain ⟨b, hbb⟩ : ∃ b, w.heap.size = b := ⟨_, rfl⟩
  have HBB := Lib.hid hbb
  rw [hbb] at hs0 hb0 hzS
  have hgb : gO ≠ b := by omega
  have hgb2 : gO + 1 ≠ b := by omega
  have hgob : gO = b + 1 := by omega
  have hbe : b ≤ w.heap.size := by omega
  clear w0 hs00 hb00 hzS
  go_enter Tryz.func6, Tryz.ntmps6
  clear hgob
  go_wp2_with fail
  clear hwS hwB hbb hgO
  have HBD := Lib.hid (ech_bds hO hB hgb hgb2)
  have hST : Spm wB b (17 + 1 + 1 + 1) wB [] := Spm.start hs0 (by omega)
  have hltB := hs0.lt
  clear hs0
  refine (spm_range hST 0 10 (by omega) (by omega) (by omega)).mono ?_
  rintro e w1 ⟨_, rfl, ⟨mv, rfl, mv0, mv1⟩, hT1⟩
  obtain ⟨many, rfl⟩ := Int.eq_ofNat_of_zero_le mv0
  clear hST
  go_wp2_with fail
  refine (spm_gifts hT1 (some ⟨gO + 1, 0, none⟩) 2 2 many _ HBD.out (by omega) mv1).mono ?_
  rintro e w2 ⟨A3, c3, gs, rfl, hgn, hgs, hT2⟩
  obtain ⟨n, hn⟩ : ∃ n, gs.length = n := ⟨_, rfl⟩
  rw [hn] at hT2 hgn ⊢
  have HOK := Lib.hid hgs.ok
  have HN := Lib.hid hn
  clear hT1 hgs hn
  go_wp2_with fail
  refine (spm_range hT2 0 400 (by omega) (by omega) (by omega)).mono ?_
  rintro e w3 ⟨_, rfl, ⟨at_, rfl, a0', a1'⟩, hT3⟩
  have hd3 := HBD.out.bx hT3.bx
  have hr3 : Rd w3 b 5 (.slice A3 n c3) n (gs.flatMap gfC) := Rd.own (show w3.ownsRow wB.heap.size 61 5 (.slice A3 n c3) n (gs.flatMap gfC) from hT3.nth 0 rfl) hT3.hb
  have hlt3 : b < w3.heap.size := by have := hT3.hb; have := hT3.size; omega
  obtain ⟨E, hE⟩ : ∃ E, giftsF (namedF [echA gO, echB]) gs = E := ⟨_, rfl⟩
  have HGF := Lib.hid (giftsFaultB_calls b A3 (some ⟨gO + 1, 0, none⟩) n c3 2 2 _ gs w3 hd3 hr3 HOK.out hlt3)
  rw [hE] at HGF
  have HE := Lib.hid hE
  have hB3 := hb0.call hT3.bx (by omega)
  have hO3 := hO.bx hT3.bx hgb
  have hBB3 := hB.bx hT3.bx hgb2
  clear hT2 hE hd3 hO hB
  go_wp2_with fail
  refine HGF.out.mono ?_
  rintro e w4 ⟨rfl, hb4⟩
  have hB4 := hB3.callB hb4 (by omega)
  have hT4 := hT3.callB hb4
  have hr4 := hr3.below hb4
  have hO4 := hO3.below hb4
  have hBB4 := hBB3.below hb4
  have hlt4 : b < w4.heap.size := by have := hb4.size; omega
  have HBX : Hid (∀ W, Bx b b w W → Below w.heap.size w W) := Lib.hid (fun W h => by have := h.below (Nat.le_refl _); rw [← HBB.out] at this; exact this)
  clear HGF hb4 hB3 hT3 hr3 hO3 hBB3 hb0
  by_cases h0 : E = 0
  · subst h0
    have HMP : Hid (∀ ps qs : List Gf, ps.Sublist gs → qs.Sublist gs → (∀ y ∈ gs, y ∈ ps ∨ y ∈ qs) → mergeE ps qs = 0 ∧ ∀ l, (∃ acc, mrgF [] (ps ++ qs) = some acc ∧ l.Perm acc ∧ SrtG l) → l = gs) := Lib.hid (fun ps qs h1 h2 h3 => mrg_parts HE.out h1 h2 h3 (fun x hx => ech_keys (((giftsF_iff _ gs).1 HE.out).2.1 x hx).2.2))
    have HPT := Lib.hid (parts_calls b A3 n c3 gs w4 hr4 (hT4.from_.to (by omega)) (by omega))
    clear hT4
    go_wp2_with fail
    refine HPT.out.mono ?_
    rintro e w5 ⟨A1, A2, n1, n2, c1, c2, m, ps, qs, rfl, hl1, hl2, hsp, hsq, hall, hT5⟩
    have hr5 := hr4.bx hT5.bx
    have rp5 : Rd w5 b 5 (.slice A1 n1 c1) n1 (ps.flatMap gfC) := Rd.own (show w5.ownsRow w4.heap.size 61 5 (.slice A1 n1 c1) n1 (ps.flatMap gfC) from hT5.nth 0 rfl) hlt4
    have rq5 : Rd w5 b 5 (.slice A2 n2 c2) n2 (qs.flatMap gfC) := Rd.own (show w5.ownsRow w4.heap.size 61 5 (.slice A2 n2 c2) n2 (qs.flatMap gfC) from hT5.nth 1 rfl) hlt4
    have hB5 := HBX.out _ (hB4.call hT5.bx (by omega))
    have hO5 := hO4.bx hT5.bx hgb
    have hBB5 := hBB4.bx hT5.bx hgb2
    have hlt5 : b < w5.heap.size := by have := hT5.size; omega
    have hn1 : n1 ≤ n := by rw [← hl1, ← HN.out]; exact hsp.length_le
    have hn2 : n2 ≤ n := by rw [← hl2, ← HN.out]; exact hsq.length_le
    have HM1 := Lib.hid (mergeGifts_calls b A1 A2 n1 c1 n2 c2 ps qs w5 rp5 rq5 (fun x hx => HOK.out x (hsp.subset hx)) (fun x hx => HOK.out x (hsq.subset hx)) (by omega) (by omega) hlt5)
    have HM2 : Hid (∀ W, Below w5.heap.size w5 W → Calls Tryz.prog 22 #[.slice A2 n2 c2, .slice A1 n1 c1] W (MrgOut W b (mergeE qs ps) (mrgF [] (qs ++ ps)))) := Lib.hid (fun W hW => mergeGifts_calls b A2 A1 n2 c2 n1 c1 qs ps W (rq5.below hW) (rp5.below hW) (fun x hx => HOK.out x (hsq.subset hx)) (fun x hx => HOK.out x (hsp.subset hx)) (by omega) (by omega) (by have := hW.size; omega))
    rw [(HMP.out ps qs hsp hsq hall).1] at HM1
    rw [(HMP.out qs ps hsq hsp (fun y hy => (hall y hy).symm)).1] at HM2
    have HL1 := Lib.hid (HMP.out ps qs hsp hsq hall).2
    have HL2 := Lib.hid (HMP.out qs ps hsq hsp (fun y hy => (hall y hy).symm)).2
    clear HPT hr4 hB4 hO4 hBB4 hT5 rp5 rq5 HMP hsp hsq hall hl1 hl2
    go_wp2_with fail
    refine HM1.out.mono ?_
    rintro e w6 ⟨A6, n6, c6, l6, rfl, hr6, hb6, hy6, _⟩
    obtain rfl : l6 = gs := HL1.out l6 (hy6 rfl)
    obtain rfl : n6 = n := by rw [← HN.out, gf_list hr6]
    clear HM1 HL1 hy6
    go_wp2_with fail
    refine (HM2.out _ hb6).mono ?_
    rintro e w7 ⟨A7, n7, c7, l7, rfl, hr7, hb7, hy7, _⟩
    obtain rfl : l7 = l6 := HL2.out l7 (hy7 rfl)
    obtain rfl : n7 = n6 := by rw [← HN.out, gf_list hr7]
    have hr7' := hr5.below (below_call hb6 hb7 (Nat.le_refl _))
    have hr67 := hr6.below hb7
    have hb57 := below_call hb6 hb7 (Nat.le_refl _)
    have hO7 := hO5.below hb57
    have hBB7 := hBB5.below hb57
    have hB7 := below_call hB5 hb57 (by have := hB5.size; omega)
    have hlt7 : b < w7.heap.size := by have := hb57.size; omega
    have hma : momB at_ = true := (momB_iff at_).2 ⟨by omega, by omega⟩
    have HEL := Lib.hid ((giftsF_iff _ l7).1 HE.out)
    have hkt : giftsF keysT l7 = 0 := giftsF_sub HE.out (List.Sublist.refl _) (fun x hx => ech_keys (HEL.out.2.1 x hx).2.2)
    have hte : totalE l7 at_ = 0 := by unfold totalE; rw [if_pos hkt, if_pos hma]
    have htl : totalL l7 at_ = totTo l7 at_ l7.length := by unfold totalL; rw [if_pos hte]
    have HTT := Lib.hid (total_calls b A3 n7 c3 l7 at_ w7 hr7' HOK.out (by omega))
    rw [hte, htl, ← ech_all (g := gO) HE.out] at HTT
    have HMA := Lib.hid hma
    clear HM2 HL2 hy7 hr5 hr6 hB5 hO5 hBB5 hb6 hb7 hb57 hkt hte htl hma
    obtain ⟨T, hT⟩ : ∃ T, sm pN at_ l7 + oS l7 at_ 3 + sm pB2 at_ l7 = T := ⟨_, rfl⟩
    rw [hT] at HTT
    have HT := Lib.hid hT
    clear hT
    go_wp2_with fail
    refine HTT.out.mono ?_
    rintro e w8 ⟨rfl, hb8⟩
    have hrg8 := hr7'.below hb8
    have hr68 := hr67.below hb8
    have hr78 := hr7.below hb8
    have hO8 := hO7.below hb8
    have hBB8 := hBB7.below hb8
    have hB8 := below_call hB7 hb8 (by have := hB7.size; omega)
    have hlt8 : b < w8.heap.size := by have := hb8.size; omega
    clear HTT hr7' hr67 hr7 hO7 hBB7 hB7 hb8
    have hbE : Below w8.heap.size w8 (w8.alloc (.cells #[.int .i64 0, .int .i64 0, .int .i64 0] 30)) := (Below.refl _ _).alloc (Nat.le_refl _) _
    have HER := Lib.hid (errsK_calls b _ 3 3 [0, 0, 0] _ (Rd.lit0 (w := w8) (cs := #[.int .i64 0, .int .i64 0, .int .i64 0]) (t := 30) (size := 1) (n := 3) hlt8 (by decide) rfl))
    go_wp2_with fail
    refine HER.out.mono ?_
    rintro e w9 ⟨rfl, nq, rfl⟩
    have hb9 := below_drewN hbE nq
    obtain ⟨w9, hw9⟩ : ∃ W, (w8.alloc (.cells #[.int .i64 0, .int .i64 0, .int .i64 0] 30)).drewN nq = W := ⟨_, rfl⟩
    rw [hw9] at hb9 ⊢
    have HEQ1 := Lib.hid (equalGf_calls b A6 A3 n7 c6 c3 l7 w9 (hr68.below hb9) (hrg8.below hb9))
    clear HER hbE hw9
    go_wp2_with fail
    refine HEQ1.out.mono ?_
    rintro e w10 ⟨rfl, nr, rfl⟩
    have hb10 := below_drewN hb9 nr
    obtain ⟨w10, hw10⟩ : ∃ W, w9.drewN nr = W := ⟨_, rfl⟩
    rw [hw10] at hb10 ⊢
    have HEQ2 := Lib.hid (equalGf_calls b A7 A3 n7 c7 c3 l7 w10 (hr78.below hb10) (hrg8.below hb10))
    clear HEQ1 hw10 hb9
    go_wp2_with fail
    refine HEQ2.out.mono ?_
    rintro e w11 ⟨rfl, ns, rfl⟩
    have hb11 := below_drewN hb10 ns
    obtain ⟨w11, hw11⟩ : ∃ W, w10.drewN ns = W := ⟨_, rfl⟩
    rw [hw11] at hb11 ⊢
    have hrg := hrg8.below hb11
    have hO11 := hO8.below hb11
    have hBB11 := hBB8.below hb11
    have hB11 := below_call hB8 hb11 (by have := hB8.size; omega)
    have hlt11 : b < w11.heap.size := by have := hb11.size; omega
    clear HEQ2 hw11 hb10 hrg8 hr68 hr78 hO8 hBB8 hB8 hb11
    have hS := Sq.start w11
    have HRG := Lib.hid hrg
    have HB11 := Lib.hid hB11
    have HO11 := Lib.hid hO11
    have HBB11 := Lib.hid hBB11
    obtain ⟨hl, hnc, hcm, hcells⟩ := hrg.cells gfC_len (by omega)
    unfold maxLen at hcm
    have HC := Lib.hid hcells
    have HA0 : Hid (Value.int .i64 0 = .int .i64 (sm pN at_ (l7.take 0))) := Lib.hid (by simp [sm])
    have HBD2 : Hid (∀ (p : Gf → Bool) k, k ≤ n7 → 0 ≤ sm p at_ (l7.take k) ∧ sm p at_ (l7.take k) ≤ 2199023255552 * (k : Int)) := Lib.hid (fun p k hk => by
      have := sm_bd (p := p) (at_ := at_) (l := l7.take k) (fun x hx => by
        have h1 := (gifts_right HE.out x (List.mem_of_mem_take hx)).2
        have h2 := (HOK.out x (List.mem_of_mem_take hx)).hc.2
        omega)
      rw [List.length_take, Nat.min_eq_left (by rw [HN.out]; exact hk)] at this
      exact this)
    clear hrg hB11 hO11 hBB11 hl hcells
    go_wp2_with fail
    go_loopw [15, 93] (fun a i wr => ∃ k : Nat, k ≤ n7 ∧ i = .int .i64 k ∧ a = .int .i64 (sm pN at_ (l7.take k)) ∧ Sq w11 wr []) (fun _ i _ => n7 - (intOf i).toNat)
    case atStart => exact ⟨0, Nat.zero_le _, rfl, HA0.out, hS⟩
    case round =>
      clear hS HA0
      obtain ⟨k, hk, rfl, rfl, hS⟩ := hrel
      by_cases hlt : k < n7
      · have hkr : k < l7.length := by rw [HN.out]; exact hlt
        obtain ⟨g, o, hA, _, hcs⟩ := HC.out (by omega)
        subst hA
        have hbd := HBD2.out pN k hk
        have hst := sm_step pN at_ l7 k hkr
        have hcc := (HOK.out _ (List.getElem_mem hkr)).hc
        have x0 := below_cell hS.below (hcs k hkr 0 (by omega))
        have x1 := below_cell hS.below (hcs k hkr 1 (by omega))
        have x2 := below_cell hS.below (hcs k hkr 2 (by omega))
        have x3 := below_cell hS.below (hcs k hkr 3 (by omega))
        have x4 := below_cell hS.below (hcs k hkr 4 (by omega))
        obtain ⟨y, hy⟩ : ∃ y, l7[k] = y := ⟨_, rfl⟩
        rw [hy] at x0 x1 x2 x3 x4 hst hcc
        obtain ⟨yi, ya, yc, yb, yo⟩ := y
        replace x0 : wr.cell? ⟨g, o + k * 5, none⟩ = some (.string yi) := x0
        replace x1 : wr.cell? ⟨g, o + k * 5 + 1, none⟩ = some (.int .i64 ya) := x1
        replace x2 : wr.cell? ⟨g, o + k * 5 + 2, none⟩ = some (.int .i64 yc) := x2
        replace x3 : wr.cell? ⟨g, o + k * 5 + 3, none⟩ = some (.string yb) := x3
        replace x4 : wr.cell? ⟨g, o + k * 5 + 4, none⟩ = some (.string yo) := x4
        have hpn : pN ⟨yi, ya, yc, yb, yo⟩ = yb.toList.isEmpty := eqS_nil yb
        have hst2 : sm pN at_ (l7.take (k + 1)) = if yb.toList.isEmpty = true ∧ ya ≤ at_ then sm pN at_ (l7.take k) + yc else sm pN at_ (l7.take k) := by rw [hst, hpn]
        simp only at hcc
        clear hpn
        obtain ⟨cc0, cc1⟩ := hcc
        obtain ⟨bd0, bd1⟩ := hbd
        obtain ⟨S1, hS1⟩ : ∃ S, sm pN at_ (l7.take k) = S := ⟨_, rfl⟩
        rw [hS1] at hst2 bd0 bd1 ⊢
        have hS2 := (hS.add #[.string yi, .int .i64 ya, .int .i64 yc, .string yb, .string yo] 61).tail
        have hsz := hS.size
        clear hcs hy hS hst hS1
        by_cases ha : ya ≤ at_
        · cases hBe : yb.toList.isEmpty
          · have HST := Lib.hid (hst2.trans (if_neg (by rw [hBe]; simp)))
            clear hst2
            go_wp2_with fail
            go_roundw
            case rel => exact ⟨k + 1, by omega, by go_num, by rw [HST.out], hS2⟩
            case measure => simp [intOf]; omega
          · have HST := Lib.hid (hst2.trans (if_pos ⟨hBe, ha⟩))
            clear hst2
            go_wp2_with fail
            go_roundw
            case rel => exact ⟨k + 1, by omega, by go_num, by rw [HST.out], hS2⟩
            case measure => simp [intOf]; omega
        · have HST := Lib.hid (hst2.trans (if_neg (fun h => ha h.2)))
          clear hst2
          go_wp2_with fail
          go_roundw
          case rel => exact ⟨k + 1, by omega, by go_num, by rw [HST.out], hS2⟩
          case measure => simp [intOf]; omega
      · obtain rfl : k = n7 := by omega
        have HSN : Hid (sm pN at_ (l7.take k) = sm pN at_ l7) := Lib.hid (by rw [List.take_of_length_le (by rw [HN.out]; exact Nat.le_refl _)])
        rw [HSN.out]
        have hbn := HBD2.out pN k (Nat.le_refl _)
        rw [HSN.out] at hbn
        have HBN := Lib.hid hbn
        have bO : Blk wr gO 9 #[.string ⟨#[120]⟩, .string ⟨#[121]⟩, .string ⟨#[122]⟩] := HO11.out.below hS.below
        have bB : Blk wr (gO + 1) 53 (bidL gO) := HBB11.out.below hS.below
        have q3 : wr.cell? ⟨gO + 1, 3, none⟩ = some (.slice (some ⟨gO, 0, none⟩) 3 3) := bB.cell 3
        have hOS0 : Hid (Value.int .i64 (sm pN at_ l7) = .int .i64 (sm pN at_ l7 + oS l7 at_ 0)) := Lib.hid (by simp [oS])
        have HOB : Hid (∀ j, j ≤ 3 → 0 ≤ oS l7 at_ j ∧ oS l7 at_ j ≤ 21990232555520 * (j : Int)) := Lib.hid (by
          intro j
          induction j with
          | zero => intro _; simp [oS]
          | succ j ih =>
            intro hj
            have h1 := ih (by omega)
            have h2 := HBD2.out (pO (oK j)) k (Nat.le_refl _)
            rw [List.take_of_length_le (by rw [HN.out]; exact Nat.le_refl _)] at h2
            rw [oS]
            omega)
        have hSr := hS
        obtain ⟨S0, hS0⟩ : ∃ S, sm pN at_ l7 = S := ⟨_, rfl⟩
        rw [hS0] at HT HBN hOS0 ⊢
        clear hbn hS bO bB HSN hS0
        go_wp2_with fail
        go_loopw [15, 116] (fun a i W => ∃ j : Nat, j ≤ 3 ∧ i = .int .i64 j ∧ a = .int .i64 (S0 + oS l7 at_ j) ∧ Sq w11 W []) (fun _ i _ => 3 - (intOf i).toNat)
        case atStart => exact ⟨0, by omega, rfl, hOS0.out, hSr⟩
        case round =>
          clear hSr q3 hOS0
          obtain ⟨j, hj, rfl, rfl, hS⟩ := hrel
          by_cases hlt : j < 3
          · have hcell : wr.cell? ⟨gO, j, none⟩ = some (.string (oK j)) := by
              have bO : Blk wr gO 9 #[.string ⟨#[120]⟩, .string ⟨#[121]⟩, .string ⟨#[122]⟩] := HO11.out.below hS.below
              rcases (show j = 0 ∨ j = 1 ∨ j = 2 by omega) with rfl | rfl | rfl
              · exact bO.cell 0
              · exact bO.cell 1
              · exact bO.cell 2
            have hsz := hS.size
            obtain ⟨gV, hgV⟩ : ∃ g, wr.heap.size = g := ⟨_, rfl⟩
            have hSa := hS.add #[.string (oK j)] 9
            have hza : (wr.alloc (.cells #[.string (oK j)] 9)).heap.size = wr.heap.size + 1 := by simp
            rw [hgV] at hSa hsz hza
            have hOm := Lib.hid (oK_mem j)
            have hB1 := HOB.out j (by omega)
            have hCb := HBD2.out (pO (oK j)) k (Nat.le_refl _)
            rw [List.take_of_length_le (by rw [HN.out]; exact Nat.le_refl _)] at hCb
            have hZ1 : S0 + oS l7 at_ (j + 1) = S0 + oS l7 at_ j + sm (pO (oK j)) at_ l7 := by rw [oS]; omega
            obtain ⟨o, ho⟩ : ∃ o, oK j = o := ⟨_, rfl⟩
            rw [ho] at hcell hSa hOm hCb hZ1 hza
            obtain ⟨C, hC⟩ : ∃ C, sm (pO o) at_ l7 = C := ⟨_, rfl⟩
            obtain ⟨Z, hZ⟩ : ∃ Z, S0 + oS l7 at_ j = Z := ⟨_, rfl⟩
            rw [hC] at hZ1 hCb
            rw [hZ] at hZ1 ⊢
            have HZ1 := Lib.hid hZ1
            have hbz : 0 ≤ Z ∧ Z ≤ 100000000000000 := by
              have := HBN.out
              omega
            obtain ⟨bz0, bz1⟩ := hbz
            obtain ⟨cb0, cb1⟩ := hCb
            have HCL := Lib.hid (cloneGf_calls b A3 k c3 _ (wr.alloc (.cells #[.string o] 9)) (HRG.out.below hSa.below) (gfC_one l7) (by omega))
            have HSA := Lib.hid hSa
            have HGW := Lib.hid hza
            have hk0 : (0 : Int) ≤ (j : Int) := by omega
            have hk1 : (j : Int) < 3 := by omega
            have h11 : w11.heap.size ≤ gV := hsz
            have hwV : b < gV := by omega
            clear hS hSa hZ1 ho hB1 hZ hza
            go_wp2_with fail
            refine HCL.out.mono ?_
            rintro e w2 ⟨v, rfl, ho2, hb2⟩
            obtain ⟨A8, c8, hv⟩ := own_form ho2
            subst hv
            have hV : Blk (wr.alloc (.cells #[.string o] 9)) gV 9 #[.string o] := HSA.out.head
            have HDL := Lib.hid (deleteO_calls (wr.alloc (.cells #[.string o] 9)) b gV (fun x => !eqS x.option o) A8 k c8 l7 w2 ((Sq.start _).ownB hb2 ho2) (fun W x hW => ech1_calls gV o x W (hV.below hW)) (by rw [HGW.out]; omega) (by omega))
            rw [keepO] at HDL
            clear HCL ho2 hb2 hV
            go_wp2_with fail
            refine HDL.out.mono ?_
            rintro e w3' ⟨A9, n9, c9, rfl, hn9, hr9, hb9⟩
            have hb3 := below_call HSA.out.below hb9 (by have := HSA.out.size; omega)
            have hn9' : n9 ≤ 10 := by
              have : (ownO o l7).length ≤ l7.length := List.length_filter_le _ _
              rw [HN.out] at this
              omega
            have hlt3 : b < w3'.heap.size := by have := hb9.size; rw [HGW.out] at this; omega
            have hw1 := ech_opt (g := gO) HE.out HMA.out hOm.out
            have hw2 : (wonR (echA gO) (ownO o l7) at_).2.1 = C := hw1.2.trans hC
            have HW := wonX_calls b (echA gO) A9 n9 c9 (ownO o l7) at_ w3' (echA_ok (HO11.out.below hb3) hgb) hr9 (fun x hx => HOK.out x (List.mem_filter.1 hx).1) (by omega) hlt3
            rw [hw1.1, hw2] at HW
            obtain ⟨RS, hRS⟩ : ∃ R, (wonR (echA gO) (ownO o l7) at_).1 = R := ⟨_, rfl⟩
            obtain ⟨RB, hRB⟩ : ∃ R, (wonR (echA gO) (ownO o l7) at_).2.2 = R := ⟨_, rfl⟩
            rw [hRS, hRB] at HW
            have HWW : Hid (Calls Tryz.prog 28 #[.agg #[.string ⟨#[98, 97]⟩, .string ⟨#[115, 97]⟩, .int .i64 0, .slice (some ⟨gO, 0, none⟩) 3 3], .slice A9 n9 c9, .int .i64 at_] w3' (BRet (.tuple #[.string RS, .int .i64 C, .bool RB, .int .i64 0]) w3')) := Lib.hid HW
            have bB : Blk w3' (gO + 1) 53 (bidL gO) := HBB11.out.below hb3
            have q0 : w3'.cell? ⟨gO + 1, 0, none⟩ = some (.string ⟨#[98, 97]⟩) := bB.cell 0
            have q1 : w3'.cell? ⟨gO + 1, 1, none⟩ = some (.string ⟨#[115, 97]⟩) := bB.cell 1
            have q2 : w3'.cell? ⟨gO + 1, 2, none⟩ = some (.int .i64 0) := bB.cell 2
            have q3 : w3'.cell? ⟨gO + 1, 3, none⟩ = some (.slice (some ⟨gO, 0, none⟩) 3 3) := bB.cell 3
            clear HDL HW hw1 hw2 hRS hRB bB hr9 hb9 hn9 hC
            go_wp2_with fail
            refine HWW.out.mono ?_
            rintro e w4' ⟨rfl, hb4⟩
            have hS4 : Sq w11 w4' [] := (Sq.start w11).callB (below_call hb3 hb4 (by omega))
            clear HWW hb3 hb4 q0 q1 q2 q3
            go_wp2_with fail
            go_roundw
            case rel => exact ⟨j + 1, by omega, by go_num, by rw [HZ1.out], hS4⟩
            case measure => simp [intOf]; omega
          · obtain rfl : j = 3 := by omega
            have hz3 := HOB.out 3 (Nat.le_refl _)
            have hcb := HBD2.out pB2 k (Nat.le_refl _)
            rw [List.take_of_length_le (by rw [HN.out]; exact Nat.le_refl _)] at hcb
            obtain ⟨C, hC⟩ : ∃ C, sm pB2 at_ l7 = C := ⟨_, rfl⟩
            obtain ⟨Z, hZ⟩ : ∃ Z, S0 + oS l7 at_ 3 = Z := ⟨_, rfl⟩
            rw [hC] at hcb
            have hTT : Z + C = T := by rw [← HT.out, hC, hZ]
            rw [hZ] at ⊢
            have hbz : 0 ≤ Z ∧ Z ≤ 100000000000000 := by
              have := HBN.out
              omega
            obtain ⟨bz0, bz1⟩ := hbz
            obtain ⟨cb0, cb1⟩ := hcb
            have HCL := Lib.hid (cloneGf_calls b A3 k c3 _ wr (HRG.out.below hS.below) (gfC_one l7) (by omega))
            have hwr : b < wr.heap.size := by have := hS.size; omega
            have HS := Lib.hid hS
            have HTT := Lib.hid hTT
            clear hS hZ hz3 hTT
            go_wp2_with fail
            refine HCL.out.mono ?_
            rintro e w2 ⟨v, rfl, ho2, hb2⟩
            obtain ⟨A8, c8, hv⟩ := own_form ho2
            subst hv
            have HDL := Lib.hid (deleteB_calls wr b (fun x => !eqS x.bid ⟨#[98, 98]⟩) A8 k c8 l7 w2 ((Sq.start _).ownB hb2 ho2) (fun W x _ => ech2_calls x W) hwr (by omega))
            rw [keepB] at HDL
            clear HCL ho2 hb2
            go_wp2_with fail
            refine HDL.out.mono ?_
            rintro e w3' ⟨A9, n9, c9, rfl, hn9, hr9, hb9⟩
            have hb3 := below_call HS.out.below hb9 (by have := HS.out.size; omega)
            have hn9' : n9 ≤ 10 := by
              have : (ownB l7).length ≤ l7.length := List.length_filter_le _ _
              rw [HN.out] at this
              omega
            have hlt3 : b < w3'.heap.size := by have := hb9.size; omega
            have hw1 := ech_bid (g := gO) HE.out HMA.out
            have hw2 : (wonR echB (ownB l7) at_).2.1 = C := hw1.2.1.trans hC
            have hw3 := hw1.2.2
            have HW := wonX_calls b echB A9 n9 c9 (ownB l7) at_ w3' (echB_ok w3' b) hr9 (fun x hx => HOK.out x (List.mem_filter.1 hx).1) (by omega) hlt3
            rw [hw1.1, hw3, hw2] at HW
            obtain ⟨RS, hRS⟩ : ∃ R, (wonR echB (ownB l7) at_).1 = R := ⟨_, rfl⟩
            rw [hRS] at HW
            have HWW : Hid (Calls Tryz.prog 28 #[.agg #[.string ⟨#[98, 98]⟩, .string ⟨#[115, 97]⟩, .int .i64 50, .slice none 0 0], .slice A9 n9 c9, .int .i64 at_] w3' (BRet (.tuple #[.string RS, .int .i64 C, .bool (decide (50 ≤ C)), .int .i64 0]) w3')) := Lib.hid HW
            have bB : Blk w3' (gO + 1) 53 (bidL gO) := HBB11.out.below hb3
            have q4 : w3'.cell? ⟨gO + 1, 4, none⟩ = some (.string ⟨#[98, 98]⟩) := bB.cell 4
            have q5 : w3'.cell? ⟨gO + 1, 5, none⟩ = some (.string ⟨#[115, 97]⟩) := bB.cell 5
            have q6 : w3'.cell? ⟨gO + 1, 6, none⟩ = some (.int .i64 50) := bB.cell 6
            have q7 : w3'.cell? ⟨gO + 1, 7, none⟩ = some (.slice none 0 0) := bB.cell 7
            clear HDL HW hw1 hw2 hw3 hRS bB hr9 hb9 hn9 hC
            go_wp2_with fail
            refine HWW.out.mono ?_
            rintro e w4' ⟨rfl, hb4⟩
            have hlt4' : b < w4'.heap.size := by have := hb4.size; omega
            have hb11 := below_call hb3 hb4 (by omega)
            have hbw := below_call HB11.out hb11 (by have := HB11.out.size; omega)
            have hRD := Lib.hid (ready_calls b w4' hlt4' (ht.below hbw))
            have hTT : Z + C = T := HTT.out
            clear HWW hb3 hb4 q4 q5 q6 q7 HTT
            by_cases h50 : 50 ≤ C
            · go_wp2_with fail
              refine hRD.out.mono ?_
              rintro e w12 ⟨rfl, hb12⟩
              have hfin := below_call hbw hb12 (by have := hbw.size; omega)
              go_wp2_with fail
              go_ret
              exact ⟨rfl, hfin⟩
            · go_wp2_with fail
              refine hRD.out.mono ?_
              rintro e w12 ⟨rfl, hb12⟩
              have hfin := below_call hbw hb12 (by have := hbw.size; omega)
              go_wp2_with fail
              go_ret
              exact ⟨rfl, hfin⟩
  · have hx : (E != 0) = true := by rw [bne_iff_ne]; exact h0
    have hfin := HBX.out _ hB4
    have hRD := Lib.hid (ready_calls b w4 hlt4 (ht.below hfin))
    go_wp2_with fail
    refine hRD.out.mono ?_
    rintro e w11 ⟨rfl, hb11⟩
    have hfin2 := below_call hfin hb11 (Nat.le_refl _)
    go_wp2_with fail
    go_ret
    exact ⟨rfl, hfin2⟩
end Go.Proofs.YtohhbkodfidfkaaGreatDoor
