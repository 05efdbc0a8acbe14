/-
  Aways of the stream by a contract. (Printed by gen_slot14.py.)
-/
import Derived.Test.YtlfhommeomchoaaZSlot12
import Derived.Test.YtlfhommeomchoaaZSlotPure
import Derived.Test.YtlfhommeomchoaaZSlot9
namespace Go.Proofs.Ytlfhommeomchoaa
open Go Go.RowKit
attribute [local go_sem ↓] Go.wp_at_zero Go.wp_at_succ

def PrOks (ps : List Pr) : Prop := ∀ p ∈ ps, PrOk p
theorem PrOks.snoc {ps : List Pr} {p : Pr} (h : PrOks ps) (hp : PrOk p) : PrOks (ps ++ [p]) := by
  intro y hy
  rcases List.mem_append.1 hy with hy | hy
  · exact h y hy
  · simp at hy; subst hy; exact hp
/-- pairs in new memory, drawn -/
def AwaysS (b K m : Nat) (w : World) (e : Ending) (w' : World) : Prop :=
  ∃ (v : Value) (ps : List Pr), e = .returned v ∧ ps.length ≤ m ∧ PrOks ps ∧ Sp w b K w' [rOwn w.heap.size 83 2 v ps.length (ps.flatMap prC)]

set_option maxRecDepth 100000 in
set_option maxHeartbeats 2000000 in
theorem aways_calls (b K : Nat) (A : Option Addr) (n c : Nat) (xs : List Slt) (w : World) (hs : Strm w b K) (hK : K ≤ 900000) (hr : Slts w b A n c xs) (hn : n ≤ 1000) :
    Calls Try.prog 34 #[.pointer (some ⟨b, 0, none⟩), .slice A n c] w (AwaysS b (K + 2 * n + 3) (n + 1) w) := by
  obtain ⟨hl, hnc, hcm, hcells⟩ := hr.rd.cells sltC_len (by omega)
  obtain ⟨i0, hi, hz0, hz1, hz2⟩ := info_parts info_pr
  unfold maxLen at hcm
  have HL := Lib.hid hl
  have HC := Lib.hid hcells
  have HR := Lib.hid hr
  have hS0 := (Sp.start hs).nil w.heap.size 83 2
  clear hcells hl hr
  go_enter Try.func34, Try.ntmps34
  go_wp2_with fail
  go_loopw [5, 10] (fun v i wr => ∃ (k : Nat) (ps : List Pr), k ≤ n ∧ i = .int .i64 k ∧ ps.length ≤ k ∧ PrOks ps ∧ Sp w b (K + 2 * k) wr [rOwn w.heap.size 83 2 v ps.length (ps.flatMap prC)]) (fun _ i _ => n - (intOf i).toNat)
  case atStart => exact ⟨0, [], Nat.zero_le _, rfl, Nat.le_refl _, (by intro x hx; cases hx), hS0⟩
  case round =>
    clear hS0
    obtain ⟨k, ps, hk, rfl, hpk, hz, hS⟩ := hrel
    by_cases hlt : k < n
    · have hkr : k < xs.length := by rw [HL.out]; exact hlt
      obtain ⟨g, o, hA, hgb, hcs⟩ := HC.out (by omega)
      subst hA
      have hc5 : ∀ j (hj : j < 5), wr.cell? ⟨g, o + k * 5 + j, none⟩ = (sltC xs[k])[j]? := fun j hj => by
        have := hcs k hkr j hj
        have hlt : j < (sltC xs[k]).length := by rw [sltC_len]; exact hj
        rw [List.getElem?_eq_getElem hlt] at this ⊢
        exact hS.bx.cell this hgb
      have c0 := hc5 0 (by omega)
      have c1 := hc5 1 (by omega)
      have c2 := hc5 2 (by omega)
      have c3 := hc5 3 (by omega)
      have c4 := hc5 4 (by omega)
      have hok := HR.out.ok _ (List.getElem_mem hkr)
      obtain ⟨x, hx⟩ : ∃ x, xs[k] = x := ⟨_, rfl⟩
      rw [hx] at c0 c1 c2 c3 c4 hok
      replace c0 : wr.cell? ⟨g, o + k * 5, none⟩ = some (.string x.key) := c0
      replace c1 : wr.cell? ⟨g, o + k * 5 + 1, none⟩ = some (.string x.who) := c1
      replace c2 : wr.cell? ⟨g, o + k * 5 + 2, none⟩ = some (.slice x.ha x.hosts.length x.hc) := c2
      replace c3 : wr.cell? ⟨g, o + k * 5 + 3, none⟩ = some (.int .i64 x.setup) := c3
      replace c4 : wr.cell? ⟨g, o + k * 5 + 4, none⟩ = some (.int .i64 x.long) := c4
      have hxk : x.key.size ≤ 1000 := hok.hk
      have hS1 := hS.add #[.string x.key, .string x.who, .slice x.ha x.hosts.length x.hc, .int .i64 x.setup, .int .i64 x.long] 121
      clear hcs hc5 hok hx hS
      go_wp2_with fail
      refine (sp_flip hS1 2 (by omega) (by omega) (by omega)).mono ?_
      rintro e w1 ⟨_, rfl, ⟨fv, rfl⟩, hS2⟩
      clear hS1 c0 c1 c2 c3 c4
      cases fv
      · go_wp2_with fail
        go_roundw
        case rel => exact ⟨k + 1, ps, by omega, by go_num, by omega, hz, hS2.tail.more (by omega)⟩
        case measure => simp [intOf]; omega
      · have b0 : w1.cell? ⟨wr.heap.size, 0, none⟩ = some (.string x.key) := Blk.cell (hS2.nth 0 rfl : Blk w1 _ _ _) 0
        have hbl : wr.heap.size < w1.heap.size := Blk.lt (hS2.nth 0 rfl : Blk w1 _ _ _)
        have HA : Hid (Calls Try.prog 29 #[.pointer (some ⟨b, 0, none⟩), .slice (some ⟨w1.heap.size, 0, none⟩) 5 5] (w1.alloc (.cells #[.string ⟨#[122, 101, 100]⟩, .string ⟨#[104, 97, 108]⟩, .string ⟨#[106, 111, 101]⟩, .string ⟨#[97, 110, 110]⟩, .string ⟨#[98, 101, 97]⟩] 9)).drew (fun e w' => ∃ y, e = .returned (.string y) ∧ y.size ≤ 1000 ∧ w'.cell? ⟨wr.heap.size, 0, none⟩ = some (.string x.key) ∧ w.heap.size ≤ w'.heap.size ∧ Sp w b (K + 2 * k + 2) w' [rOwn w.heap.size 83 2 u5 ps.length (ps.flatMap prC)])) :=
          (sp_some (hS2.add #[.string ⟨#[122, 101, 100]⟩, .string ⟨#[104, 97, 108]⟩, .string ⟨#[106, 111, 101]⟩, .string ⟨#[97, 110, 110]⟩, .string ⟨#[98, 101, 97]⟩] 9).drew 0 (g := w1.heap.size) (n := 5) (t := 9) (cs := #[.string ⟨#[122, 101, 100]⟩, .string ⟨#[104, 97, 108]⟩, .string ⟨#[106, 111, 101]⟩, .string ⟨#[97, 110, 110]⟩, .string ⟨#[98, 101, 97]⟩]) rfl (by decide) (by decide) rfl (strLit_ok rfl) (by omega)).mono (fun e w' ⟨v, he, ⟨y, hv, hy⟩, hs⟩ => ⟨y, by rw [he, hv], hy, Blk.cell (hs.nth 1 rfl : Blk w' _ _ _) 0, hs.size, hs.tail.tail.more (by omega)⟩)
        have h63 : ps.length + 1 ≤ maxLen := by unfold maxLen; omega
        have hby : (ps.length + 1) * 32 ≤ 140737488355328 := by omega
        clear hS2
        go_wp2_with fail
        go_region_law (first
          | (go_simp; go_at_call 29; ((with_reducible refine HA.out.mono ?_); rintro e w2 ⟨y, rfl, hys, b0b, hsz2, hU⟩))
          | (refine step_append_lies _ (by rfl) _ _ _ (by rfl) w.heap.size 83 i0 (.agg #[.string ⟨#[]⟩, .string ⟨#[]⟩]) 2 32 Try.underlying66 hi hz0 hz1 hz2 rfl (by omega) u5 ps.length (ps.flatMap prC) (by rfl) ((hU.alloc _).head) ⟨w2.heap.size, 0, none⟩ 1 1 [.string y, .string x.key] (by rfl) (by rfl) (news_new _ _ _ _ rfl) (one2 rfl rfl) (by omega) h63 hby (base1 hsz2 _) _ rfl ?_; intro g2 cap2 w3 hown' hgrow hblk hlt3; have hV := (hU.alloc _).append hown' hgrow (own_lies hblk); clear hown' hgrow hblk))
        all_goals
          have hW : Sp w b (K + 2 * k + 2) w3 [rOwn w.heap.size 83 2 (.slice (some ⟨g2, 0, none⟩) (ps.length + 1) cap2) (ps ++ [(y, x.key)]).length ((ps ++ [(y, x.key)]).flatMap prC)] := by
            rw [flat_snoc, List.length_append]
            exact hV
          clear hV hU
          go_wp2_with fail
          go_roundw
          case rel => exact ⟨k + 1, _, by omega, by go_num, by simp; omega, hz.snoc (p := (y, x.key)) ⟨hys, hxk⟩, hW.more (by omega)⟩
          case measure => simp [intOf]; omega
    · obtain rfl : k = n := by omega
      go_wp2_with fail
      refine (sp_flip hS 15 (by omega) (by omega) (by omega)).mono ?_
      rintro e w1 ⟨_, rfl, ⟨fv, rfl⟩, hS2⟩
      clear hS
      cases fv
      · go_wp2_with fail
        go_ret
        exact ⟨_, ps, rfl, by omega, hz, hS2.more (by omega)⟩
      · go_wp2_with fail
        refine (sp_someL hS2 #[.string ⟨#[]⟩, .string ⟨#[122, 101, 100]⟩] 9 2 (by decide) (by decide) rfl (strLit_ok rfl) (by omega)).mono ?_
        rintro e w2 ⟨_, rfl, ⟨y, rfl, hys⟩, hS3⟩
        clear hS2
        go_wp2_with fail
        refine (sp_someL hS3 #[.string ⟨#[122, 122]⟩, .string ⟨#[115, 97]⟩] 9 2 (by decide) (by decide) rfl (strLit_ok rfl) (by omega)).mono ?_
        rintro e w3 ⟨_, rfl, ⟨z, rfl, hzs⟩, hU⟩
        clear hS3
        have hsz3 := hU.size
        have HO5 : w3.ownsRow w.heap.size 83 2 u5 ps.length (ps.flatMap prC) := hU.head
        go_wp2_with (first
          | (at_builtin; refine wpList_append_own_at _ rfl _ _ 66 rfl w.heap.size 83 i0 (.agg #[.string ⟨#[]⟩, .string ⟨#[]⟩]) 2 32 Try.underlying66 hi hz0 hz1 hz2 rfl (by decide) _ _ _ rfl (HO5.alloc _) ⟨w3.heap.size, 0, none⟩ 1 1 [.string y, .string z] rfl rfl (World.news_of_block (heap_alloc_new _ _)) (one2 rfl rfl) (by unfold maxLen; omega) (by omega) (by simp; omega) ?_; intro v' w8 hown' hgrow _ hblk; have hS8 := (hU.alloc _).append hown' hgrow hblk; clear hown' hgrow hblk))
        go_ret
        refine ⟨_, ps ++ [(y, z)], rfl, by simp; omega, hz.snoc (p := (y, z)) ⟨hys, hzs⟩, ?_⟩
        rw [flat_snoc, List.length_append]
        exact hS8.more (by omega)
end Go.Proofs.Ytlfhommeomchoaa
