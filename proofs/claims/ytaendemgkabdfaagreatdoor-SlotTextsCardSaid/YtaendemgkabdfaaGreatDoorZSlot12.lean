/-
  RightSlots of the stream by a contract. (Printed by gen_slot12.py.)
-/
import Derived.Test.YtaendemgkabdfaaGreatDoorZSlot4
import Derived.Test.YtaendemgkabdfaaGreatDoorZSep
namespace Go.Proofs.YtaendemgkabdfaaGreatDoor
open Go Go.RowKit
attribute [local go_sem ↓] Go.wp_at_zero Go.wp_at_succ

theorem info_slt : (Tryz.prog.info? 52).map (fun i => (i.zero, i.size, i.bytes)) = some (some (.agg #[.string ⟨#[]⟩, .string ⟨#[]⟩, .slice none 0 0, .int .i64 0, .int .i64 0]), 5, 72) := by kernel_rfl
/-- the hosts of a slot, in memory of the call's own -/
def hostR (base : Nat) (x : Slt) : Rsc := rOwn base 9 1 (.slice x.ha x.hosts.length x.hc) x.hosts.length (strsV x.hosts)
theorem hostR_ok (base : Nat) (x : Slt) : (hostR base x).Ok := rOwn_ok _ _ _ _ _ _
/-- a slot within its bounds -/
structure SltZ (h : Nat) (x : Slt) : Prop where
  hk : x.key.size ≤ 1000
  hw : x.who.size ≤ 1000
  hh : ∀ s ∈ x.hosts, s.size ≤ 1000
  hn : x.hosts.length ≤ h
  hs : -2199023255552 ≤ x.setup ∧ x.setup ≤ 2199023255552
  hl : -2199023255552 ≤ x.long ∧ x.long ≤ 2199023255552
theorem SltZ.more {h h' : Nat} {x : Slt} (k : SltZ h x) (hh : h ≤ h') : SltZ h' x := ⟨k.hk, k.hw, k.hh, Nat.le_trans k.hn hh, k.hs, k.hl⟩
def SltZs (h : Nat) (xs : List Slt) : Prop := ∀ x ∈ xs, SltZ h x
theorem SltZs.more {h h' : Nat} {xs : List Slt} (k : SltZs h xs) (hh : h ≤ h') : SltZs h' xs := fun x hx => (k x hx).more hh
theorem SltZs.snoc {m : Nat} {xs : List Slt} {x : Slt} (h : SltZs m xs) (hx : SltZ m x) : SltZs m (xs ++ [x]) := by
  intro y hy
  rcases List.mem_append.1 hy with hy | hy
  · exact h y hy
  · simp at hy; subst hy; exact hx
theorem SltZs.set {m : Nat} {xs : List Slt} {x : Slt} (h : SltZs m xs) (i : Nat) (hx : SltZ m x) : SltZs m (xs.set i x) := by
  intro y hy
  rcases List.mem_or_eq_of_mem_set hy with hy | hy
  · exact h y hy
  · subst hy; exact hx
/-- slots in new memory, drawn -/
def SlotsS (b K m h : Nat) (w : World) (e : Ending) (w' : World) : Prop :=
  ∃ (v : Value) (xs : List Slt), e = .returned v ∧ xs.length ≤ m ∧ SltZs h xs ∧ Sp w b K w' [rOwn w.heap.size 52 5 v xs.length (xs.flatMap sltC), rAll (hostR w.heap.size) xs]
theorem one5 {a b c d e : Value} (ha : a.oneCell' = true) (hb : b.oneCell' = true) (hc : c.oneCell' = true) (hd : d.oneCell' = true) (he : e.oneCell' = true) : ∀ v ∈ [a, b, c, d, e], v.oneCell' = true := by
  intro v hv
  simp at hv
  rcases hv with rfl | rfl | rfl | rfl | rfl <;> assumption

set_option maxRecDepth 100000 in
set_option maxHeartbeats 2000000 in
theorem rightSlots_calls (b K m : Nat) (w : World) (hs : Strm w b K) (hK : K ≤ 900000) (hm : m ≤ 5) :
    Calls Tryz.prog 53 #[.pointer (some ⟨b, 0, none⟩), .int .i64 m] w (SlotsS b (K + 35) m 3 w) := by
  obtain ⟨i0, hi, hz0, hz1, hz2⟩ := info_parts info_slt
  obtain ⟨j0, hj, hy0, hy1, hy2⟩ := info_parts info_str
  have hS0 := ((((Sp.start hs).add #[.string ⟨#[115, 99]⟩, .string ⟨#[115, 97]⟩, .string ⟨#[115, 100]⟩, .string ⟨#[115, 98]⟩, .string ⟨#[115, 101]⟩] 9).allNil (hostR w.heap.size) (hostR_ok _)).nil w.heap.size 52 5)
  have hm0 : (0 : Int) ≤ (m : Int) := by omega
  have hm5 : (m : Int) ≤ 5 := by omega
  go_enter Tryz.func53, Tryz.ntmps53
  go_wp2_with fail
  go_loopw [5, 15] (fun v i wr => ∃ (k : Nat) (xs : List Slt), k ≤ m ∧ i = .int .i64 k ∧ xs.length ≤ k ∧ SltZs 3 xs ∧ Sp w b (K + 7 * k) wr [rOwn w.heap.size 52 5 v xs.length (xs.flatMap sltC), rAll (hostR w.heap.size) xs, rBlk w.heap.size 9 #[.string ⟨#[115, 99]⟩, .string ⟨#[115, 97]⟩, .string ⟨#[115, 100]⟩, .string ⟨#[115, 98]⟩, .string ⟨#[115, 101]⟩]]) (fun _ i _ => m - (intOf i).toNat)
  case atStart => exact ⟨0, [], Nat.zero_le _, rfl, Nat.le_refl _, (by intro x hx; cases hx), hS0⟩
  case round =>
    clear hS0
    obtain ⟨k, xs, hk, rfl, hxk, hz, hS⟩ := hrel
    obtain ⟨wo, hwo⟩ : ∃ wo : World, wo = wr := ⟨_, rfl⟩
    subst hwo
    by_cases hlt : k < m
    · obtain ⟨s, hcs, hss⟩ := strLit_at (cs := #[.string ⟨#[115, 99]⟩, .string ⟨#[115, 97]⟩, .string ⟨#[115, 100]⟩, .string ⟨#[115, 98]⟩, .string ⟨#[115, 101]⟩]) rfl k (by simp; omega)
      have hb5 : Blk wo w.heap.size 9 #[.string ⟨#[115, 99]⟩, .string ⟨#[115, 97]⟩, .string ⟨#[115, 100]⟩, .string ⟨#[115, 98]⟩, .string ⟨#[115, 101]⟩] := hS.nth 2 rfl
      have c0 := (hb5.cell k).trans hcs
      have hk0 : (0 : Int) ≤ (k : Int) := by omega
      have hk5 : (k : Int) < (m : Int) := by omega
      clear hcs hb5
      go_wp2_with fail
      refine (sp_flip hS 6 (by omega) (by omega) (by omega)).mono ?_
      rintro e w1 ⟨_, rfl, ⟨fv, rfl⟩, hS1⟩
      clear c0 hS
      cases fv
      · go_wp2_with fail
        refine (sp_someL hS1 #[.string ⟨#[97, 110, 110]⟩, .string ⟨#[98, 101, 97]⟩, .string ⟨#[99, 105, 100]⟩] 9 3 (by decide) (by decide) rfl (strLit_ok rfl) (by omega)).mono ?_
        rintro e w2 ⟨_, rfl, ⟨z, rfl, hzz⟩, hS2⟩
        clear hS1
        go_wp2_with fail
        refine (sp_pickL hS2 #[.int .i64 0, .int .i64 10, .int .i64 20] 3 3 0 20 (by decide) (by decide) rfl rfl (by omega)).mono ?_
        rintro e w3 ⟨_, rfl, ⟨p, rfl, hp0, hp1⟩, hS3⟩
        clear hS2
        go_wp2_with fail
        refine (sp_pickL hS3 #[.int .i64 50, .int .i64 100, .int .i64 100, .int .i64 200] 3 4 50 200 (by decide) (by decide) rfl rfl (by omega)).mono ?_
        rintro e w4 ⟨_, rfl, ⟨q, rfl, hq0, hq1⟩, hS4⟩
        clear hS3
        have hS5 := (((((hS4.add #[.string s, .string z, .slice none 0 0, .int .i64 p, .int .i64 q] 52).add #[.string ⟨#[97, 110, 110]⟩, .string ⟨#[104, 97, 108]⟩, .string ⟨#[106, 111, 101]⟩] 9).front 1 rfl rfl).nil w.heap.size 9 1))
        simp only [size1] at hS5
        have hz4 := hS4.size
        clear hS4
        go_wp2_with fail
        go_loopw [34] (fun i wr => ∃ (j : Nat) (ha : Option Addr) (hc : Nat) (hh : List ByteArray), j ≤ 3 ∧ i = .int .i64 j ∧ hh.length ≤ j ∧ (∀ s ∈ hh, s.size ≤ 1000) ∧ Sp w b (K + 7 * k + 4 + j) wr [rOwn w.heap.size 9 1 (.slice ha hh.length hc) hh.length (strsV hh), rBlk w4.heap.size 52 #[.string s, .string z, .slice ha hh.length hc, .int .i64 p, .int .i64 q], rBlk (w4.heap.size + 1) 9 #[.string ⟨#[97, 110, 110]⟩, .string ⟨#[104, 97, 108]⟩, .string ⟨#[106, 111, 101]⟩], rOwn w.heap.size 52 5 u5 xs.length (xs.flatMap sltC), rAll (hostR w.heap.size) xs, rBlk w.heap.size 9 #[.string ⟨#[115, 99]⟩, .string ⟨#[115, 97]⟩, .string ⟨#[115, 100]⟩, .string ⟨#[115, 98]⟩, .string ⟨#[115, 101]⟩]]) (fun i _ => 3 - (intOf i).toNat)
        case atStart => exact ⟨0, none, 0, [], by omega, rfl, by simp, (by intro x hx; cases hx), hS5⟩
        case round =>
          clear hS5
          obtain ⟨j, ha, hc, hh, hj3, rfl, hhj, hhz, hS⟩ := hrel
          have hbx : Blk wr w4.heap.size 52 #[.string s, .string z, .slice ha hh.length hc, .int .i64 p, .int .i64 q] := hS.nth 1 rfl
          by_cases hjl : j < 3
          · obtain ⟨h, hcs, hhs⟩ := strLit_at (cs := #[.string ⟨#[97, 110, 110]⟩, .string ⟨#[104, 97, 108]⟩, .string ⟨#[106, 111, 101]⟩]) rfl j (by simp; omega)
            have hb3 : Blk wr (w4.heap.size + 1) 9 #[.string ⟨#[97, 110, 110]⟩, .string ⟨#[104, 97, 108]⟩, .string ⟨#[106, 111, 101]⟩] := hS.nth 2 rfl
            have c0 := (hb3.cell j).trans hcs
            have hj0 : (0 : Int) ≤ (j : Int) := by omega
            have hj5 : (j : Int) < 3 := by omega
            clear hcs hb3 hbx
            go_wp2_with fail
            refine (sp_flip hS 3 (by omega) (by omega) (by omega)).mono ?_
            rintro e w5 ⟨_, rfl, ⟨fv, rfl⟩, hS5⟩
            clear c0 hS
            have hbx : Blk w5 w4.heap.size 52 #[.string s, .string z, .slice ha hh.length hc, .int .i64 p, .int .i64 q] := hS5.nth 1 rfl
            have d1 := hbx.cell 1
            have d2 := hbx.cell 2
            clear hbx
            cases fv
            · go_wp2_with fail
              go_roundw
              case rel => exact ⟨j + 1, ha, hc, hh, by omega, by go_num, by omega, hhz, hS5⟩
              case measure => simp [intOf]; omega
            · obtain ⟨B, hB⟩ : ∃ B, (h.toList == z.toList) = B := ⟨_, rfl⟩
              cases B
              · have hz5 := hS5.size
                have HO5 : w5.ownsRow w.heap.size 9 1 (.slice ha hh.length hc) hh.length (strsV hh) := hS5.head
                go_wp2_with (first
                  | (at_builtin; refine wpList_append_own_at _ rfl _ _ 50 rfl w.heap.size 9 j0 (.string ⟨#[]⟩) 1 16 Tryz.underlying50 hj hy0 hy1 hy2 rfl (by decide) _ _ _ rfl (HO5.alloc _) ⟨w5.heap.size, 0, none⟩ 1 1 [.string h] rfl rfl (World.news_of_block (heap_alloc_new _ _)) (one1 rfl) (by unfold maxLen; omega) (by omega) (by simp; omega) ?_; intro v' w8 hown' hgrow _ hblk; obtain ⟨A8, c8, hv8⟩ := own_form hown'; subst hv8; have hS8 := (hS5.alloc _).append hown' hgrow hblk; clear hown' hgrow hblk; have hbx8 : Blk w8 w4.heap.size 52 #[.string s, .string z, .slice ha hh.length hc, .int .i64 p, .int .i64 q] := hS8.nth 1 rfl; have e2 := hbx8.cell 2; have f2 := hbx8.frozen 2; have l8 := hbx8.lt))
                have hS9 := ((hS8.front 1 rfl rfl).set_ 2 (.slice A8 (hh.length + 1) c8)).front 1 rfl rfl
                go_roundw
                case rel => exact ⟨j + 1, A8, c8, hh ++ [h], by omega, by go_num, by simp; omega, (by intro y hy; rcases List.mem_append.1 hy with hy | hy; exact hhz y hy; simp at hy; subst hy; exact hhs), by rw [List.length_append]; unfold strsV; rw [List.map_append]; exact hS9.more (by omega)⟩
                case measure => simp [intOf]; omega
              · go_wp2_with fail
                go_roundw
                case rel => exact ⟨j + 1, ha, hc, hh, by omega, by go_num, by omega, hhz, hS5⟩
                case measure => simp [intOf]; omega
          · obtain rfl : j = 3 := by omega
            have d0 := hbx.cell 0
            have d1 := hbx.cell 1
            have d2 := hbx.cell 2
            have d3 := hbx.cell 3
            have d4 := hbx.cell 4
            have hz5 := hS.size
            have hSf := hS.front 3 rfl rfl
            have HO5 : wr.ownsRow w.heap.size 52 5 u5 xs.length (xs.flatMap sltC) := hSf.head
            clear hbx hS
            go_wp2_with (first
              | (at_builtin; refine wpList_append_own_at _ rfl _ _ 42 rfl w.heap.size 52 i0 (.agg #[.string ⟨#[]⟩, .string ⟨#[]⟩, .slice none 0 0, .int .i64 0, .int .i64 0]) 5 72 Tryz.underlying42 hi hz0 hz1 hz2 rfl (by decide) _ _ _ rfl (HO5.alloc _) ⟨wr.heap.size, 0, none⟩ 1 1 [.string s, .string z, .slice ha hh.length hc, .int .i64 p, .int .i64 q] rfl rfl (World.news_of_block (heap_alloc_new _ _)) (one5 rfl rfl rfl rfl rfl) (by unfold maxLen; omega) (by omega) (by simp; omega) ?_; intro v' w8 hown' hgrow _ hblk; have hS8 := (hSf.alloc _).append hown' hgrow hblk; clear hown' hgrow hblk))
            have hS9 : Sp w b (K + 7 * k + 4 + 3) w8 [rOwn w.heap.size 52 5 v' (xs ++ [(⟨s, z, ha, hc, hh, p, q⟩ : Slt)]).length ((xs ++ [(⟨s, z, ha, hc, hh, p, q⟩ : Slt)]).flatMap sltC), rAll (hostR w.heap.size) (xs ++ [(⟨s, z, ha, hc, hh, p, q⟩ : Slt)]), rBlk w.heap.size 9 #[.string ⟨#[115, 99]⟩, .string ⟨#[115, 97]⟩, .string ⟨#[115, 100]⟩, .string ⟨#[115, 98]⟩, .string ⟨#[115, 101]⟩]] := by
              rw [flat_snoc, List.length_append]
              exact ((((((hS8.drop 3 rfl rfl).drop 2 rfl rfl).front 2 rfl rfl).front 2 rfl rfl).snoc (f := hostR w.heap.size) (a := ⟨s, z, ha, hc, hh, p, q⟩) (hostR_ok _))).front 1 rfl rfl
            go_roundw
            case rel => exact ⟨k + 1, _, by omega, by go_num, by simp; omega, hz.snoc ⟨hss, hzz, hhz, hhj, (⟨by omega, by omega⟩ : -2199023255552 ≤ p ∧ p ≤ 2199023255552), (⟨by omega, by omega⟩ : -2199023255552 ≤ q ∧ q ≤ 2199023255552)⟩, hS9.more (by omega)⟩
            case measure => simp [intOf]; omega
      · go_wp2_with fail
        go_roundw
        case rel => exact ⟨k + 1, xs, by omega, by go_num, by omega, hz, hS1.more (by omega)⟩
        case measure => simp [intOf]; omega
    · obtain rfl : k = m := by omega
      go_wp2_with fail
      go_ret
      exact ⟨_, xs, rfl, hxk, hz, (hS.drop 2 rfl rfl).more (by omega)⟩
end Go.Proofs.YtaendemgkabdfaaGreatDoor
