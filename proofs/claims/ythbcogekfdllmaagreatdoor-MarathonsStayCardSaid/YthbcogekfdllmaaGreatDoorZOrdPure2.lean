/-
  Order, in plain words: what is wrong, and what it answers; right slots have keys of one kind. No Go text is named here.
-/
import Derived.Test.YthbcogekfdllmaaGreatDoorZLow
import Derived.Test.YthbcogekfdllmaaGreatDoorZSpoil2
import Derived.Test.YthbcogekfdllmaaGreatDoorZEqLv
import Derived.IntWalk
import Derived.Test.YthbcogekfdllmaaGreatDoorZSlot5
import Derived.Test.YthbcogekfdllmaaGreatDoorZSlot3
import Derived.Deep.DeepCutAuto
import Derived.Deep.RegionHeld3
import Derived.RegionTactic
import Derived.ChangeAlike
import Derived.BigRegion
import Derived.Test.YthbcogekfdllmaaGreatDoorZOrd3
import Derived.Test.YthbcogekfdllmaaGreatDoorZSortSl
namespace Go.Proofs.YthbcogekfdllmaaGreatDoor
open Go Go.RowKit

def ordE (xs : List Slt) (rest : Int) : Int := if slotsF xs = 0 then if 7 < xs.length then 2 else if outB rest 0 86400000 = true then 1 else 0 else slotsF xs
theorem slotsG_one : ∀ (xs pre : List Slt), KeyOne pre → slotsG pre xs = 0 → KeyOne (pre ++ xs)
  | [], pre, h, _ => by simpa using h
  | x :: xs, pre, h, h0 => by
    rw [slotsG] at h0
    split at h0
    · exact absurd h0 (by decide)
    · split at h0
      · exact absurd h0 (by decide)
      · rename_i hf
        split at h0
        · have hx : KeyOne (pre ++ [x]) := by
            unfold KeyOne at *
            rw [keysL_app, List.nodup_append]
            refine ⟨h, by simp [keysL], fun a ha b hb => ?_⟩
            have hb : b = x.key := by simpa [keysL] using hb
            subst hb
            obtain ⟨y, hy, rfl⟩ := List.mem_map.1 ha
            exact (findL_no pre x.key).1 (by omega) y hy
          have := slotsG_one xs (pre ++ [x]) hx h0
          simpa using this
        · rename_i hs
          exact absurd h0 hs
theorem slots_one {xs : List Slt} (h : slotsF xs = 0) : KeyOne xs := by
  unfold slotsF at h
  split at h
  · exact absurd h (by decide)
  · have := slotsG_one xs [] (by simp [KeyOne, keysL]) h
    simpa using this
theorem slots_max {xs : List Slt} (h : slotsF xs = 0) : xs.length ≤ 200 := by
  unfold slotsF at h
  split at h
  · exact absurd h (by decide)
  · omega
end Go.Proofs.YthbcogekfdllmaaGreatDoor
/-
  marathon.Drop by a contract.
-/
namespace Go.Proofs.YthbcogekfdllmaaGreatDoor
open Go Go.RowKit
attribute [local go_sem ↓] Go.wp_at_zero Go.wp_at_succ

theorem info_str3 : (Tryz.prog.info? 9).map (fun i => (i.zero, i.size, i.bytes)) = some (some (.string ⟨#[]⟩), 1, 16) := by kernel_rfl
end Go.Proofs.YthbcogekfdllmaaGreatDoor
/-
  marathon.Order by a contract.
-/
namespace Go.Proofs.YthbcogekfdllmaaGreatDoor
open Go Go.RowKit
attribute [local go_sem ↓] Go.wp_at_zero Go.wp_at_succ

/-- what Order answers -/
def OrderR (L : List ByteArray) (N E : Int) (w : World) (e : Ending) (w' : World) : Prop :=
  ∃ v, e = .returned (.tuple #[v, .int .i64 N, .int .i64 E]) ∧ w'.ownsRow w.heap.size 9 1 v L.length (strsV L) ∧ Below w.heap.size w w'
theorem sortAny_calls (w0 w : World) (l : List Rsc) (A : Option Addr) (n c : Nat) (xs : List Slt) (hn : n ≤ 100000) (hS : Sq w0 w (rSl w0.heap.size A n c xs :: l)) :
    Calls Tryz.prog 68 #[.slice A n c, .func (.func 69) #[] #[]] w fun e w' =>
      e = .returned (.tuple #[]) ∧ ∃ ys : List Slt, ys.Perm xs ∧ KeyUpW ys ∧ Sq w0 w' (rSl w0.heap.size A n c ys :: l) := by
  have hown : w.ownsRow w0.heap.size 64 5 (.slice A n c) n (xs.flatMap sltC) := hS.head
  have hl : xs.length = n := by have := hown.1; rw [flat_len sltC 5 sltC_len] at this; omega
  rcases Nat.eq_zero_or_pos n with h0 | h0
  · subst h0
    have hx : xs = [] := List.eq_nil_of_length_eq_zero hl
    subst hx
    refine (sortSl_nil _ w A c).mono ?_
    rintro e w' ⟨rfl, rfl⟩
    exact ⟨rfl, [], List.Perm.refl _, List.Pairwise.nil, hS⟩
  · obtain ⟨g, cap, hv, _, _⟩ := hown.form h0
    injection hv with hA _ _
    subst hA
    exact sortSl_calls w0 w l g n c xs hn hS
set_option maxRecDepth 100000 in
set_option maxHeartbeats 4000000 in
theorem order0_calls (b : Nat) (A : Option Addr) (n c : Nat) (xs : List Slt) (rest : Int) (w : World) (hr : Slts w b A n c xs) (hb : b < w.heap.size) (hE : ordE xs rest ≠ 0) :
    Calls Tryz.prog 20 #[.slice A n c, .int .i64 rest] w (OrderR [] 0 (ordE xs rest) w) := by
  have hl := (hr.rd.cells sltC_len (by omega)).1
  have hS := (Sq.start w).add #[.int .i64 rest] 3
  have hba : Below w.heap.size w (w.alloc (.cells #[.int .i64 rest] 3)) := hS.below
  have HCS := Lib.hid (checkSlots_calls b A n c xs _ (hr.below hba) (by have := hba.size; omega))
  have HG : Hid (∀ W, Below (w.alloc (.cells #[.int .i64 rest] 3)).heap.size (w.alloc (.cells #[.int .i64 rest] 3)) W → W.cell? ⟨w.heap.size, 0, none⟩ = some (.int .i64 rest) ∧ Below w.heap.size w W) := Lib.hid (fun W h => ⟨(show Blk W w.heap.size _ _ from (hS.callB h).nth 0 rfl).cell 0, (hS.callB h).below⟩)
  obtain ⟨S, hSS⟩ : ∃ S, slotsF xs = S := ⟨_, rfl⟩
  obtain ⟨O, hO⟩ : ∃ O, outB rest 0 86400000 = O := ⟨_, rfl⟩
  obtain ⟨E, hEE⟩ : ∃ E, ordE xs rest = E := ⟨_, rfl⟩
  have HE := Lib.hid (show E = if S = 0 then if 7 < n then 2 else if O = true then 1 else 0 else S by rw [← hEE]; unfold ordE; rw [hSS, hO, hl])
  rw [hSS] at HCS
  rw [hEE] at hE ⊢
  have HO := Lib.hid hO
  have HNE := Lib.hid hE
  clear hSS hO hEE hE hl hr hS hba
  by_cases h0 : S = 0
  · subst h0
    by_cases h1 : 7 < n
    · have H2 : E = 2 := HE.out.trans (by rw [if_pos rfl, if_pos h1])
      subst H2
      clear HE HO HNE
      go_enter Tryz.func20, Tryz.ntmps20
      go_wp2_with fail
      refine HCS.out.mono ?_
      rintro e w1 ⟨rfl, hb1⟩
      obtain ⟨k0, hb2⟩ := HG.out w1 hb1
      go_wp2_with fail
      refine bodyPost_ret (v := .tuple #[.slice none 0 0, .int .i64 0, .int .i64 2]) (by simp [results, Tryz.results20, go_sem]) rfl ⟨_, rfl, World.ownsRow_nil _ _ _ _, hb2⟩
    · cases O
      · exact absurd (show E = 0 from HE.out.trans (by rw [if_pos rfl, if_neg h1]; rfl)) HNE.out
      · have H2 : E = 1 := HE.out.trans (by rw [if_pos rfl, if_neg h1]; rfl)
        subst H2
        clear HE HNE
        go_enter Tryz.func20, Tryz.ntmps20
        go_wp2_with fail
        refine HCS.out.mono ?_
        rintro e w1 ⟨rfl, hb1⟩
        obtain ⟨k0, hb2⟩ := HG.out w1 hb1
        go_wp2_with fail
        refine (out_calls _ _ _ _).mono ?_
        rintro e w2 ⟨rfl, rfl⟩
        rw [HO.out]
        go_wp2_with fail
        refine bodyPost_ret (v := .tuple #[.slice none 0 0, .int .i64 0, .int .i64 1]) (by simp [results, Tryz.results20, go_sem]) rfl ⟨_, rfl, World.ownsRow_nil _ _ _ _, hb2⟩
  · have H2 : E = S := HE.out.trans (if_neg h0)
    subst H2
    have hx : (E != 0) = true := by rw [bne_iff_ne]; exact h0
    clear HE HO HNE
    go_enter Tryz.func20, Tryz.ntmps20
    go_wp2_with fail
    refine HCS.out.mono ?_
    rintro e w1 ⟨rfl, hb1⟩
    obtain ⟨k0, hb2⟩ := HG.out w1 hb1
    go_wp2_with fail
    refine bodyPost_ret (v := .tuple #[.slice none 0 0, .int .i64 0, .int .i64 E]) (by simp [results, Tryz.results20, go_sem]) rfl ⟨_, rfl, World.ownsRow_nil _ _ _ _, hb2⟩
/-- what Order answers of right arguments -/
def OrdrS (xs : List Slt) (rest : Int) (w : World) (e : Ending) (w' : World) : Prop :=
  ∃ srt : List Slt, srt.Perm xs ∧ KeyUp srt ∧ OrderR (keysL (bestP rest srt).1) (bestP rest srt).2 0 w e w'
set_option maxRecDepth 100000 in
set_option maxHeartbeats 4000000 in
theorem order1s_calls (b : Nat) (A : Option Addr) (n c : Nat) (xs : List Slt) (rest : Int) (w : World) (hr : Slts w b A n c xs) (hb : b < w.heap.size) (hE : ordE xs rest = 0) :
    Calls Tryz.prog 20 #[.slice A n c, .int .i64 rest] w (OrdrS xs rest w) := by
  obtain ⟨j0, hj, hy0, hy1, hy2⟩ := info_parts info_str3
  have hl := (hr.rd.cells sltC_len (by omega)).1
  have hSF : slotsF xs = 0 := by
    unfold ordE at hE
    by_cases h : slotsF xs = 0
    · exact h
    · rw [if_neg h] at hE; exact absurd hE h
  have hn7 : n ≤ 7 := by
    unfold ordE at hE
    rw [if_pos hSF] at hE
    by_cases h : 7 < xs.length
    · rw [if_pos h] at hE; exact absurd hE (by decide)
    · omega
  have hO : outB rest 0 86400000 = false := by
    unfold ordE at hE
    rw [if_pos hSF, if_neg (by omega)] at hE
    cases h1 : outB rest 0 86400000
    · rfl
    · rw [h1] at hE; exact absurd hE (by decide)
  have hrest : 0 ≤ rest ∧ rest ≤ 86400000 := by
    unfold outB at hO
    simp at hO
    exact hO
  have hK1 := slots_one hSF
  have hS := (Sq.start w).add #[.int .i64 rest] 3
  have hba : Below w.heap.size w (w.alloc (.cells #[.int .i64 rest] 3)) := hS.below
  have HCS := Lib.hid (checkSlots_calls b A n c xs _ (hr.below hba) (by have := hba.size; omega))
  rw [hSF] at HCS
  have HO := Lib.hid hO
  have HR := Lib.hid hr
  have HK1 := Lib.hid hK1
  have HS := Lib.hid hS
  have HL := Lib.hid hl
  clear hSF hO hE hl hr hS hba hK1
  go_enter Tryz.func20, Tryz.ntmps20
  go_wp2_with fail
  refine HCS.out.mono ?_
  rintro e w1 ⟨rfl, hb1⟩
  have hS1 := HS.out.callB hb1
  have k0 : w1.cell? ⟨w.heap.size, 0, none⟩ = some (.int .i64 rest) := (show Blk w1 w.heap.size _ _ from hS1.nth 0 rfl).cell 0
  have HCN := Lib.hid (cloneSlt_calls b A n c (xs.flatMap sltC) w1 (HR.out.below hS1.below).rd (sltC_one xs) (by omega))
  have HS1 := Lib.hid hS1
  clear hb1 hS1
  go_wp2_with fail
  refine (out_calls _ _ _ _).mono ?_
  rintro e w2 ⟨rfl, rfl⟩
  rw [HO.out]
  go_wp2_with fail
  refine HCN.out.mono ?_
  rintro e w2 ⟨v2, rfl, hown2, hb2⟩
  obtain ⟨A2, c2, rfl⟩ := own_form hown2
  have hS2 := HS1.out.ownB hb2 hown2
  have HSO := Lib.hid (sortAny_calls w w2 _ A2 n c2 xs (by omega) hS2)
  clear hS2 hown2 hb2 HCN HS1 k0
  go_wp2_with fail
  refine HSO.out.mono ?_
  rintro e w3 ⟨rfl, ys, hp, hu, hS3⟩
  have hS4 := (hS3.nil w.heap.size 64 5).nil w.heap.size 64 5
  have hS5 := (hS4.add #[.slice none 0 0] 49).add #[.int .i64 (-1)] 3
  rw [World.size_alloc] at hS5
  have hS6 := (((hS5.front 5 rfl rfl).front 3 rfl rfl).front 3 rfl rfl).front 3 rfl rfl
  have hyl : ys.length = n := by rw [hp.length_eq]; exact HL.out
  have HOC := Lib.hid (orders_calls n b w _ w.heap.size (w3.heap.size + 1) w3.heap.size rest ([], -1) [] none A2 0 0 c2 [] ys hb hrest (by decide) hyl (by omega) (fun x hx => by cases hx) (fun x hx => HR.out.ok x (hp.mem_iff.1 hx)) ⟨none, 0, hS6⟩)
  have HSRT : Hid (ys.Perm xs ∧ KeyUp ys) := Lib.hid ⟨hp, hu.up (by have := HK1.out; unfold KeyOne keysL at *; exact (hp.map _).nodup_iff.2 this)⟩
  have HYL := Lib.hid hyl
  clear hS3 hS4 hS5 hS6 hp hu hyl HSO
  go_wp2_with fail
  refine HOC.out.mono ?_
  rintro e w5 ⟨rfl, hF⟩
  have HBP : Hid ((permsO n [] ys).foldl (stepO rest) ([], -1) = bestP rest ys) := Lib.hid (by unfold bestP; rw [HYL.out])
  rw [HBP.out] at hF
  obtain ⟨c0, hb1, hb2⟩ : ∃ c, bestP rest ys = (c, clN_ rest c) ∧ c.Perm ys := by
    obtain ⟨c, h1, h2, _⟩ := bestP_ok rest ys HSRT.out.2
    exact ⟨c, h1, h2⟩
  have hcl : c0.length = n := by rw [hb2.length_eq]; exact HYL.out
  have HB1 := Lib.hid hb1
  rw [hb1] at hF
  obtain ⟨N, hN⟩ : ∃ N, clN_ rest c0 = N := ⟨_, rfl⟩
  rw [hN] at hF
  have HN := Lib.hid hN
  obtain ⟨Ab, cb, hS7⟩ := hF
  simp only at hS7
  rw [hcl] at hS7
  have hS8 := hS7.nil w.heap.size 9 1
  have HCL := Lib.hid hcl
  obtain ⟨gb, hgb⟩ : ∃ g, w3.heap.size = g := ⟨_, rfl⟩
  rw [hgb] at hS8
  obtain ⟨R, hR⟩ : ∃ R, [rBlk (gb + 1) 3 #[.int .i64 N], rBlk gb 49 #[.slice Ab n cb], rSl w.heap.size Ab n cb c0, rBlk w.heap.size 3 #[.int .i64 rest], rSl w.heap.size none 0 0 [], rSl w.heap.size A2 n c2 ys] = R := ⟨_, rfl⟩
  rw [hR] at hS8
  have HC0 : Hid (∀ W (r : Rsc), Sq w W (r :: R) → Rd W b 5 (.slice Ab n cb) n (c0.flatMap sltC) ∧ W.cell? ⟨gb + 1, 0, none⟩ = some (.int .i64 N) ∧ W.cell? ⟨gb, 0, none⟩ = some (.slice Ab n cb)) := Lib.hid (fun W r h => by
    subst hR
    have h1 : Blk W (gb + 1) 3 #[.int .i64 N] := h.nth 1 rfl
    have h2 : Blk W gb 49 #[.slice Ab n cb] := h.nth 2 rfl
    exact ⟨Rd.own (h.nth 3 rfl) hb, h1.cell 0, h2.cell 0⟩)
  obtain ⟨_, kf0, kb⟩ := HC0.out _ _ hS8
  clear hS7 hb1 hb2 hcl hN HOC HBP hR kf0
  go_wp2_with fail
  clear kb
  go_loopw [11, 35] (fun v i wr => ∃ k : Nat, k ≤ n ∧ i = .int .i64 k ∧ Sq w wr (rOwn w.heap.size 9 1 v k (strsV (keysL (c0.take k))) :: R)) (fun _ i _ => n - (intOf i).toNat)
  case atStart => exact ⟨0, Nat.zero_le _, rfl, hS8⟩
  case round =>
    clear hS8 hgb
    obtain ⟨k, hk, rfl, hS⟩ := hrel
    obtain ⟨hrd, kf, _⟩ := HC0.out _ _ hS
    by_cases hlt : k < n
    · have hkr : k < c0.length := by rw [HCL.out]; exact hlt
      obtain ⟨_, _, _, hcs0⟩ := hrd.cells sltC_len (by omega)
      obtain ⟨g, o, hA, _, hcs⟩ := hcs0 (by omega)
      clear hcs0
      subst hA
      have x0 := hcs k hkr 0 (by omega)
      have x1 := hcs k hkr 1 (by omega)
      have x2 := hcs k hkr 2 (by omega)
      have x3 := hcs k hkr 3 (by omega)
      have x4 := hcs k hkr 4 (by omega)
      have hst : strsV (keysL (c0.take (k + 1))) = strsV (keysL (c0.take k)) ++ [.string c0[k].key] := by
        rw [List.take_succ_eq_append_getElem hkr, keysL_app]
        simp [strsV, keysL]
      obtain ⟨x, hx⟩ : ∃ x, c0[k] = x := ⟨_, rfl⟩
      rw [hx] at x0 x1 x2 x3 x4 hst
      replace x0 : wr.cell? ⟨g, o + k * 5, none⟩ = some (.string x.key) := x0
      replace x1 : wr.cell? ⟨g, o + k * 5 + 1, none⟩ = some (.string x.who) := x1
      replace x2 : wr.cell? ⟨g, o + k * 5 + 2, none⟩ = some (.slice x.ha x.hosts.length x.hc) := x2
      replace x3 : wr.cell? ⟨g, o + k * 5 + 3, none⟩ = some (.int .i64 x.setup) := x3
      replace x4 : wr.cell? ⟨g, o + k * 5 + 4, none⟩ = some (.int .i64 x.long) := x4
      have HST := Lib.hid hst
      have hk0 : (0 : Int) ≤ (k : Int) := by omega
      have hk1 : (k : Int) < (n : Int) := by omega
      have hsz := hS.size
      have hSx := (hS.alloc (.cells (sltL x) 64)).alloc (.cells #[.string x.key] 9)
      have hown : ((wr.alloc (.cells (sltL x) 64)).alloc (.cells #[.string x.key] 9)).ownsRow w.heap.size 9 1 u11 k (strsV (keysL (c0.take k))) := hSx.head
      clear hcs hx hst hrd kf hS
      go_wp2_with (first
        | (at_builtin; refine wpList_append_own_at _ rfl (.tmp 39) (.tmp 42) 57 rfl w.heap.size 9 j0 (.string ⟨#[]⟩) 1 16 Tryz.underlying57 hj hy0 hy1 hy2 rfl (by decide) u11 _ _ rfl hown ⟨wr.heap.size + 1, 0, none⟩ 1 1 [.string x.key] rfl rfl (World.news_of_block (heap_new2 _ _ _)) (one1 rfl) (by unfold maxLen; omega) (by omega) (by simp; omega) ?_; intro v' w8 hown' hgrow _ hblk; have hS8 := hSx.append hown' hgrow hblk; clear hown' hgrow hblk))
      rw [← HST.out] at hS8
      go_roundw
      case rel => exact ⟨k + 1, by omega, by go_num, hS8⟩
      case measure => simp [intOf]; omega
    · obtain rfl : k = n := by omega
      rw [List.take_of_length_le (by rw [HCL.out]; exact Nat.le_refl _)] at hS
      have hkl : (keysL c0).length = k := by rw [keysL_len]; exact HCL.out
      have HF : Hid (∀ W, Below wr.heap.size wr W → OrdrS xs rest w (.returned (.tuple #[u11, .int .i64 N, .int .i64 0])) W) := Lib.hid (fun W hW => by
        refine ⟨ys, HSRT.out.1, HSRT.out.2, u11, ?_, ?_, (hS.callB hW).below⟩
        · rw [HB1.out, ← HN.out]
        · rw [HB1.out]
          simp only
          rw [hkl]
          exact (hS.callB hW).head)
      clear hrd hS hkl
      go_wp2_with fail
      go_region
      all_goals
        go_wp2_with fail
        refine bodyPost_ret (by simp [results, Tryz.results20, go_sem]) rfl (HF.out _ (below_drewN (Below.refl _ _) _))
end Go.Proofs.YthbcogekfdllmaaGreatDoor
