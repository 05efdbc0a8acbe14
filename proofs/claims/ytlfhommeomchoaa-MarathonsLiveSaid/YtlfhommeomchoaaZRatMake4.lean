/-
  Ranks as the stream makes them, by a contract.
-/
import Derived.Test.YtlfhommeomchoaaZRatMake3
import Derived.Deep.RegionLaw
import Derived.Deep.RegionWith
import Derived.Deep.DrawnRows
import Derived.Deep.DeepMust
namespace Go.Proofs.Ytlfhommeomchoaa
open Go Go.RowKit
attribute [local go_sem ↓] Go.wp_at_zero Go.wp_at_succ

abbrev Res := Int × ByteArray × Int
def resC (r : Res) : List Value := [.int .i64 r.1, .string r.2.1, .int .i64 r.2.2]
theorem resC_len (r : Res) : (resC r).length = 3 := rfl
def RsOK (r : Res) : Prop := I64 r.1 ∧ r.2.1.size ≤ 1000 ∧ r.2.2 = 0
def Rss (rs : List Res) : Prop := ∀ r ∈ rs, RsOK r
theorem Rss.snoc {rs : List Res} {r : Res} (h : Rss rs) (hr : RsOK r) : Rss (rs ++ [r]) := by
  intro x hx
  rcases List.mem_append.1 hx with hx | hx
  · exact h x hx
  · simp at hx; rw [hx]; exact hr
theorem Rss.set {rs : List Res} {r : Res} (h : Rss rs) (i : Nat) (hr : RsOK r) : Rss (rs.set i r) := by
  intro x hx
  rcases List.mem_or_eq_of_mem_set hx with hx | hx
  · exact h x hx
  · rw [hx]; exact hr
theorem info_res : (Try.prog.info? 98).map (fun i => (i.zero, i.size, i.bytes)) = some (some (.agg #[.int .i64 0, .string ⟨#[]⟩, .int .i64 0]), 3, 32) := by kernel_rfl

theorem news_new (w : World) (cs : Array Value) (t : TypeId) (B : Nat) (hB : w.heap.size = B) : ∀ j u, cs.toList[j]? = some u → (w.alloc (.cells cs t)).cell? ((⟨B, 0, none⟩ : Addr).add j) = some u := by
  subst hB
  exact World.news_of_block (heap_alloc_new w _)

theorem base1 {w : World} {B : Nat} (h : B ≤ w.heap.size) (o : Obj) : B ≤ (w.alloc o).heap.size := by simp; omega
theorem size1 (w : World) (o : Obj) : (w.alloc o).heap.size = w.heap.size + 1 := by simp
theorem one3 {x y z : Value} (hx : x.oneCell' = true) (hy : y.oneCell' = true) (hz : z.oneCell' = true) : ∀ u ∈ [x, y, z], u.oneCell' = true := by
  intro u hu
  simp at hu
  rcases hu with rfl | rfl | rfl <;> assumption

/-- ranks in new memory -/
def RanksS (b K : Nat) (w : World) (e : Ending) (w' : World) : Prop :=
  ∃ (v : Value) (rs : List Res), e = .returned v ∧ w'.ownsRow w.heap.size 98 3 v rs.length (rs.flatMap resC) ∧ rs.length ≤ 4 ∧ Rss rs ∧ Strm w' b K ∧ Bx w.heap.size b w w'

def picks7 : List Int := [2, 2, 3, 4, 4, 0, 1]

set_option maxRecDepth 100000 in
set_option maxHeartbeats 2000000 in
theorem ranks_calls (b K : Nat) (w : World) (hs : Strm w b K) (hK : K ≤ 900000) :
    Calls Try.prog 9 #[.pointer (some ⟨b, 0, none⟩)] w (RanksS b (K + 40) w) := by
  have hlt := hs.lt
  obtain ⟨i0, hi, hz0, hz1, hz2⟩ := info_parts info_res
  go_enter Try.func9, Try.ntmps9
  go_wp2_with fail
  refine (order_calls b K 4 _ (by omega) hs (by omega)).mono ?_
  rintro e w1 ⟨v, xs, rfl, hown1, hnum, hs1, hb1⟩
  simp only [Int.reduceToNat, Int.cast_ofNat_Int] at hown1 hnum
  obtain ⟨g, cap, hv, hg0, hg1⟩ := hown1.form (by decide)
  have hzz := hb1.size
  subst hv
  go_wp2_with fail
  refine (pick_calls b _ _ 7 7 _ _ (by omega) (Rd.lit0 hs1.lt (by decide) rfl) (by simp) (hs1.alloc _) (by omega)).mono ?_
  rintro e w2 ⟨x, rfl, hm, hs2, hb2⟩
  obtain ⟨n, rfl, hn4⟩ : ∃ n : Nat, x = .int .i64 n ∧ n ≤ 4 := by
    simp at hm
    rcases hm with rfl | rfl | rfl | rfl | rfl
    · exact ⟨2, rfl, by omega⟩
    · exact ⟨3, rfl, by omega⟩
    · exact ⟨4, rfl, by omega⟩
    · exact ⟨0, rfl, by omega⟩
    · exact ⟨1, rfl, by omega⟩
  have hown2 := own_bx (hown1.alloc _) hb2 (by omega)
  have hb3 := (hb1.alloc (Nat.le_refl _) _).call hb2 (Nat.le_refl _)
  clear hm hown1 hs1 hb1 hb2
  have hcap : (4 : Int) ≤ (cap : Int) := by have := (own_cap hown2).1; omega
  go_wp2_with fail
  go_loopw [3, 14] (fun v i wr => ∃ (k : Nat) (rs : List Res), k ≤ n ∧ i = .int .i64 k ∧ Hid (rs.length = k) ∧ wr.ownsRow w.heap.size 98 3 v k (rs.flatMap resC) ∧ Rss rs ∧ Strm wr b (K + 5 + k) ∧ Bx w.heap.size b w wr ∧
      wr.ownsRow w.heap.size 3 1 (.slice (some ⟨g, 0, none⟩) 4 cap) 4 xs) (fun _ i _ => n - (intOf i).toNat)
  case atStart => exact ⟨0, [], Nat.zero_le _, rfl, rfl, World.ownsRow_nil _ _ _ _, (by intro x hx; cases hx), hs2.more (by omega), hb3, hown2⟩
  case round =>
    clear hs2 hb3 hown2
    obtain ⟨k, rs, hk, rfl, HN, hown, hrs, hsr, hbr, hidx⟩ := hrel
    by_cases hlt4 : k < n
    · have hxl := hidx.1
      obtain ⟨z, hz, z0, z4⟩ := hnum _ (List.getElem_mem (show k < xs.length by omega))
      obtain ⟨i, rfl⟩ := Int.eq_ofNat_of_zero_le z0
      have hc : wr.cell? ⟨g, k, none⟩ = some (.int .i64 i) := by rw [hidx.cellAt k (by omega), List.getElem?_eq_getElem (by omega), hz]
      have hi0 : (0 : Int) ≤ (i : Int) := z0
      have hi4 : (i : Int) < 4 := z4
      obtain ⟨s, hlit, hsz⟩ : ∃ s : ByteArray, (∀ W : World, (W.alloc (.cells #[.string ⟨#[97, 110, 110]⟩, .string ⟨#[98, 101, 97]⟩, .string ⟨#[99, 105, 100]⟩, .string ⟨#[100, 97, 110]⟩] 9)).cell? ⟨W.heap.size, i, none⟩ = some (.string s)) ∧ s.size ≤ 1000 :=
        ⟨names4[i]'(by simp [names4]; omega), fun W => by rw [(Blk.new W _ _).cell]; exact strs_at names4 i (by simp [names4]; omega), names4_le _ (List.getElem_mem _)⟩
      have hbz := hbr.size
      have hbw := hsr.lt
      clear hz
      go_wp2_with fail
      have HA : Hid (Calls Try.prog 58 #[.pointer (some ⟨b, 0, none⟩), .int .i64 1, .int .i64 4] wr.drew (fun e w2 => ∃ p : Int, e = .returned (.int .i64 p) ∧ 1 ≤ p ∧ p ≤ 4 ∧ w2.ownsRow w.heap.size 98 3 u3 k (rs.flatMap resC) ∧ w2.ownsRow w.heap.size 3 1 (.slice (some ⟨g, 0, none⟩) 4 cap) 4 xs ∧ Strm w2 b (K + 5 + k + 1) ∧ Bx w.heap.size b w w2 ∧ w.heap.size ≤ w2.heap.size)) := by
        refine (range_calls b (K + 5 + k) 1 4 wr.drew (by omega) (by omega) (by omega) hsr.drew (by omega)).mono ?_
        rintro e w2 ⟨p, rfl, p1, p2, hs2, hb2⟩
        exact ⟨p, rfl, p1, p2, own_bx (own_drew hown) hb2 (by omega), own_bx (own_drew hidx) hb2 (by omega), hs2, hbr.drew.call hb2 (Nat.le_refl _), Nat.le_trans hbz hb2.size⟩
      have HB : Hid (Calls Try.prog 58 #[.pointer (some ⟨b, 0, none⟩), .int .i64 1, .int .i64 4] (wr.alloc (.cells #[.string ⟨#[97, 110, 110]⟩, .string ⟨#[98, 101, 97]⟩, .string ⟨#[99, 105, 100]⟩, .string ⟨#[100, 97, 110]⟩] 9)).drew (fun e w2 => ∃ p : Int, e = .returned (.int .i64 p) ∧ 1 ≤ p ∧ p ≤ 4 ∧ w2.ownsRow w.heap.size 98 3 u3 k (rs.flatMap resC) ∧ w2.ownsRow w.heap.size 3 1 (.slice (some ⟨g, 0, none⟩) 4 cap) 4 xs ∧ Strm w2 b (K + 5 + k + 1) ∧ Bx w.heap.size b w w2 ∧ w.heap.size ≤ w2.heap.size ∧ w2.cell? ⟨wr.heap.size, i, none⟩ = some (.string s))) := by
        refine (range_calls b (K + 5 + k) 1 4 (wr.alloc _).drew (by omega) (by omega) (by omega) (hsr.alloc _).drew (by omega)).mono ?_
        rintro e w2 ⟨p, rfl, p1, p2, hs2, hb2⟩
        exact ⟨p, rfl, p1, p2, own_bx (own_drew (hown.alloc _)) hb2 (by omega), own_bx (own_drew (hidx.alloc _)) hb2 (by omega), hs2, (hbr.alloc (Nat.le_refl _) _).drew.call hb2 (Nat.le_refl _), Nat.le_trans (base1 hbz _) hb2.size, Bx.cell (p := ⟨wr.heap.size, i, none⟩) hb2 (hlit wr) (by simp; omega)⟩
      have hmx : k + 1 ≤ maxLen := by unfold maxLen; omega
      have hby : (k + 1) * 32 ≤ 140737488355328 := by omega
      clear hsr hidx
      go_region_law (first
        | (go_simp; go_at_call 58; ((with_reducible refine HA.out.mono ?_); rintro e w2 ⟨p, rfl, p1, p2, hown2, hidx2, hs2, hbx2, hsz2⟩))
        | (go_simp; go_at_call 58; ((with_reducible refine HB.out.mono ?_); rintro e w2 ⟨p, rfl, p1, p2, hown2, hidx2, hs2, hbx2, hsz2, hc2⟩))
        | (refine step_append_lies _ (by rfl) _ _ _ (by rfl) w.heap.size 98 i0 (.agg #[.int .i64 0, .string ⟨#[]⟩, .int .i64 0]) 3 32 Try.underlying31 hi hz0 hz1 hz2 rfl (by omega) u3 k (rs.flatMap resC) (by rfl) ((hown2.alloc _).alloc _) ⟨w2.heap.size + 1, 0, none⟩ 1 1 [.int .i64 p, .string s, .int .i64 0] (by rfl) (by rfl) (news_new _ _ _ _ (size1 _ _)) (one3 rfl rfl rfl) (by omega) hmx hby (base1 (base1 hsz2 _) _) _ rfl ?_; intro g2 cap2 w3 hown3 hgrow3 hat3 hlt3)
        | (refine step_append_lies _ (by rfl) _ _ _ (by rfl) w.heap.size 98 i0 (.agg #[.int .i64 0, .string ⟨#[]⟩, .int .i64 0]) 3 32 Try.underlying31 hi hz0 hz1 hz2 rfl (by omega) u3 k (rs.flatMap resC) (by rfl) (hown2.alloc _) ⟨w2.heap.size, 0, none⟩ 1 1 [.int .i64 p, .string s, .int .i64 0] (by rfl) (by rfl) (news_new _ _ _ _ rfl) (one3 rfl rfl rfl) (by omega) hmx hby (base1 hsz2 _) _ rfl ?_; intro g2 cap2 w3 hown3 hgrow3 hat3 hlt3))
      all_goals
        have hrow : ∀ q, u3.ownBlock = some q → b < q := fun q hq => by have := (hown2.lt q hq).1; omega
        have hrow' : ∀ q, u3.ownBlock = some q → q = b ∨ w.heap.size ≤ q := fun q hq => .inr (hown2.lt q hq).1
        have hs3 : Strm w3 b (K + 5 + k + 1) := by first | exact ((hs2.alloc _).alloc _).grown hgrow3 hrow | exact (hs2.alloc _).grown hgrow3 hrow
        have hb3 : Bx w.heap.size b w w3 := by first | exact ((hbx2.alloc (Nat.le_refl _) _).alloc (Nat.le_refl _) _).grown hgrow3 (Nat.le_refl _) hrow' | exact (hbx2.alloc (Nat.le_refl _) _).grown hgrow3 (Nat.le_refl _) hrow'
        have hidx3 : w3.ownsRow w.heap.size 3 1 (.slice (some ⟨g, 0, none⟩) 4 cap) 4 xs := by first | exact own_two ((hown2.alloc _).alloc _) ((hidx2.alloc _).alloc _) (by decide) hgrow3 | exact own_two (hown2.alloc _) (hidx2.alloc _) (by decide) hgrow3
        have hown4 : w3.ownsRow w.heap.size 98 3 (.slice (some ⟨g2, 0, none⟩) (k + 1) cap2) (k + 1) ((rs ++ [(p, s, 0)]).flatMap resC) := by rw [flat_snoc]; exact hown3
        have hrs4 := hrs.snoc (r := (p, s, 0)) ⟨by unfold I64; simp; omega, hsz, rfl⟩
        have hl4 : Hid ((rs ++ [(p, s, 0)]).length = k + 1) := by rw [List.length_append, HN.out]; rfl
        clear hown3 hown2 hidx2 hgrow3 hs2 hbx2 hrow hrow' hat3 hown hbr
        go_wp2
        go_roundw
        case rel => exact ⟨k + 1, _, by omega, by go_num, hl4, hown4, hrs4, hs3, hb3, hidx3⟩
        case measure => simp [intOf]; omega
    · obtain rfl : k = n := by omega
      obtain ⟨A, c3, hv⟩ := own_form hown
      subst hv
      by_cases h0 : k = 0
      · subst h0
        go_wp2_with fail
        go_ret
        exact ⟨_, rs, rfl, by rw [HN.out]; exact hown, by rw [HN.out]; omega, hrs, hsr.more (by omega), hbr⟩
      · have hk0 : (0 : Int) < (k : Int) := by omega
        go_wp2_with fail
        refine (flip_calls b _ _ _ (by omega) (by omega) hsr (by omega)).mono ?_
        rintro e w5 ⟨v, rfl, hs5, hb5⟩
        have hown5 := own_bx hown hb5 (by omega)
        have hbx5 := hbr.call hb5 (Nat.le_refl _)
        clear hown hsr hbr hb5 hidx
        cases v
        · go_wp2_with fail
          go_ret
          exact ⟨_, rs, rfl, by rw [HN.out]; exact hown5, by rw [HN.out]; omega, hrs, hs5.more (by omega), hbx5⟩
        · go_wp2_with fail
          refine (next_calls b _ _ _ (by omega) (by have := (own_cap hown5).1; omega) hs5 (by omega)).mono ?_
          rintro e w6 ⟨v, rfl, v1, v2, hs6, hb6⟩
          have hown6 := own_bx hown5 hb6 (by omega)
          have hbx6 := hbx5.call hb6 (Nat.le_refl _)
          clear hown5 hbx5 hs5 hb6
          obtain ⟨g2, c4, hv, hg2, hg3⟩ := hown6.form (by omega)
          injection hv with hA _ hc4
          subst hA hc4
          obtain ⟨j, rfl⟩ := Int.eq_ofNat_of_zero_le v1
          have hjk : j < k := by omega
          have hjr : j < rs.length := by rw [HN.out]; exact hjk
          have hri := hrs _ (List.getElem_mem hjr)
          have cw := own_cell resC 3 resC_len hown6 j 1 hjr hjk (by omega)
          simp only [resC, List.getElem?_cons_zero, List.getElem?_cons_succ] at cw
          obtain ⟨s, hs0⟩ : ∃ s, rs[j].2.1 = s := ⟨_, rfl⟩
          rw [hs0] at cw
          have hss : s.size ≤ 1000 := by rw [← hs0]; exact hri.2.1
          clear hs0
          have hbs := hbx6.size
          have hbw := hs6.lt
          have hbg : b < g2 := by omega
          have hne : (⟨g2, j * 3 + 1, none⟩ : Addr).block ≠ b := by simp; omega
          have hLit : Rd (w6.alloc (.cells #[.string s, .string ⟨#[122, 101, 100]⟩, .string ⟨#[97, 110, 110]⟩] 9)).drew b 1 (.slice (some ⟨w6.heap.size, 0, none⟩) 3 3) 3 [.string s, .string ⟨#[122, 101, 100]⟩, .string ⟨#[97, 110, 110]⟩] := Rd.lit0 (w := w6) hbw (by decide) rfl
          have HA : Hid (Calls Try.prog 59 #[.pointer (some ⟨b, 0, none⟩), .int .i64 1, .int .i64 128] w6.drew (fun e w7 => ∃ p : Int, e = .returned (.int .i64 p) ∧ I64 p ∧ w7.ownsRow w.heap.size 98 3 (.slice (some ⟨g2, 0, none⟩) k c3) k (rs.flatMap resC) ∧ w7.cell? ⟨g2, j * 3 + 1, none⟩ = some (.string s) ∧ Strm w7 b (K + 5 + k + 4) ∧ Bx w.heap.size b w w7)) := by
            refine (odd_calls b (K + 5 + k + 2) 1 128 w6.drew (by omega) (by omega) (by omega) hs6.drew (by omega)).mono ?_
            rintro e w7 ⟨p, rfl, p1, p2, hs7, hb7⟩
            exact ⟨p, rfl, ⟨by omega, by omega⟩, own_bx (own_drew hown6) hb7 (by omega), Bx.cell hb7 cw hne, hs7, hbx6.drew.call hb7 (Nat.le_refl _)⟩
          have HB : Hid (Calls Try.prog 59 #[.pointer (some ⟨b, 0, none⟩), .int .i64 1, .int .i64 128] (w6.alloc (.cells #[.string s, .string ⟨#[122, 101, 100]⟩, .string ⟨#[97, 110, 110]⟩] 9)).drew (fun e w7 => ∃ p : Int, e = .returned (.int .i64 p) ∧ I64 p ∧ w7.ownsRow w.heap.size 98 3 (.slice (some ⟨g2, 0, none⟩) k c3) k (rs.flatMap resC) ∧ w7.cell? ⟨g2, j * 3 + 1, none⟩ = some (.string s) ∧ Strm w7 b (K + 5 + k + 4) ∧ Bx w.heap.size b w w7 ∧ Rd w7 b 1 (.slice (some ⟨w6.heap.size, 0, none⟩) 3 3) 3 [.string s, .string ⟨#[122, 101, 100]⟩, .string ⟨#[97, 110, 110]⟩])) := by
            refine (odd_calls b (K + 5 + k + 2) 1 128 (w6.alloc _).drew (by omega) (by omega) (by omega) (hs6.alloc _).drew (by omega)).mono ?_
            rintro e w7 ⟨p, rfl, p1, p2, hs7, hb7⟩
            exact ⟨p, rfl, ⟨by omega, by omega⟩, own_bx (own_drew (hown6.alloc _)) hb7 (by omega), Bx.cell hb7 ((World.cell?_alloc_lt w6 _ ⟨g2, j * 3 + 1, none⟩ hg3).trans cw) hne, hs7, (hbx6.alloc (Nat.le_refl _) _).drew.call hb7 (Nat.le_refl _), Rd.bx hLit hb7⟩
          have hmem : ∀ z : Value, z ∈ [Value.string s, .string ⟨#[122, 101, 100]⟩, .string ⟨#[97, 110, 110]⟩] → ∃ y : ByteArray, z = .string y ∧ y.size ≤ 1000 := by
            intro z hz
            simp at hz
            rcases hz with rfl | rfl | rfl
            · exact ⟨s, rfl, hss⟩
            · exact ⟨_, rfl, by decide⟩
            · exact ⟨_, rfl, by decide⟩
          have HSA : Hid (∀ w7 : World, w7.ownsRow w.heap.size 98 3 (.slice (some ⟨g2, 0, none⟩) k c3) k (rs.flatMap resC) ∧ w7.cell? ⟨g2, j * 3 + 1, none⟩ = some (.string s) ∧ Strm w7 b (K + 5 + k + 4) ∧ Bx w.heap.size b w w7 → Calls Try.prog 29 #[.pointer (some ⟨b, 0, none⟩), .slice (some ⟨w7.heap.size, 0, none⟩) 3 3] (w7.alloc (.cells #[.string s, .string ⟨#[122, 101, 100]⟩, .string ⟨#[97, 110, 110]⟩] 9)) (fun e w8 => ∃ y : ByteArray, e = .returned (.string y) ∧ y.size ≤ 1000 ∧ w8.ownsRow w.heap.size 98 3 (.slice (some ⟨g2, 0, none⟩) k c3) k (rs.flatMap resC) ∧ w8.cell? ⟨g2, j * 3, none⟩ = some (.int .i64 rs[j].1) ∧ w8.cell? ⟨g2, j * 3 + 1, none⟩ = some (.string rs[j].2.1) ∧ w8.frozen? ⟨g2, j * 3, none⟩ = false ∧ w8.frozen? ⟨g2, j * 3 + 1, none⟩ = false ∧ Strm w8 b (K + 5 + k + 5) ∧ Bx w.heap.size b w w8)) := by
            rintro w7 ⟨f1, f2, f3, f4⟩
            refine (some_calls b _ _ 3 3 _ _ (by omega) (Rd.lit0 f3.lt (by decide) rfl) (fun z hz => by obtain ⟨y, h, _⟩ := hmem z hz; exact ⟨y, h⟩) (f3.alloc _) (by omega)).mono ?_
            rintro e w8 ⟨z, rfl, hz, hs8, hb8⟩
            obtain ⟨y, rfl, hy⟩ := hmem z hz
            have o8 := own_bx (f1.alloc _) hb8 (by omega)
            exact ⟨y, rfl, hy, o8, own_cell resC 3 resC_len o8 j 0 hjr hjk (by omega), own_cell resC 3 resC_len o8 j 1 hjr hjk (by omega), o8.frozenAt _, o8.frozenAt _, hs8, (f4.alloc (Nat.le_refl _) _).call hb8 (Nat.le_refl _)⟩
          have HSB : Hid (∀ w7 : World, w7.ownsRow w.heap.size 98 3 (.slice (some ⟨g2, 0, none⟩) k c3) k (rs.flatMap resC) ∧ w7.cell? ⟨g2, j * 3 + 1, none⟩ = some (.string s) ∧ Strm w7 b (K + 5 + k + 4) ∧ Bx w.heap.size b w w7 ∧ Rd w7 b 1 (.slice (some ⟨w6.heap.size, 0, none⟩) 3 3) 3 [.string s, .string ⟨#[122, 101, 100]⟩, .string ⟨#[97, 110, 110]⟩] → Calls Try.prog 29 #[.pointer (some ⟨b, 0, none⟩), .slice (some ⟨w6.heap.size, 0, none⟩) 3 3] w7 (fun e w8 => ∃ y : ByteArray, e = .returned (.string y) ∧ y.size ≤ 1000 ∧ w8.ownsRow w.heap.size 98 3 (.slice (some ⟨g2, 0, none⟩) k c3) k (rs.flatMap resC) ∧ w8.cell? ⟨g2, j * 3, none⟩ = some (.int .i64 rs[j].1) ∧ w8.cell? ⟨g2, j * 3 + 1, none⟩ = some (.string rs[j].2.1) ∧ w8.frozen? ⟨g2, j * 3, none⟩ = false ∧ w8.frozen? ⟨g2, j * 3 + 1, none⟩ = false ∧ Strm w8 b (K + 5 + k + 5) ∧ Bx w.heap.size b w w8)) := by
            rintro w7 ⟨f1, f2, f3, f4, f5⟩
            refine (some_calls b _ _ 3 3 _ _ (by omega) f5 (fun z hz => by obtain ⟨y, h, _⟩ := hmem z hz; exact ⟨y, h⟩) f3 (by omega)).mono ?_
            rintro e w8 ⟨z, rfl, hz, hs8, hb8⟩
            obtain ⟨y, rfl, hy⟩ := hmem z hz
            have o8 := own_bx f1 hb8 (by omega)
            exact ⟨y, rfl, hy, o8, own_cell resC 3 resC_len o8 j 0 hjr hjk (by omega), own_cell resC 3 resC_len o8 j 1 hjr hjk (by omega), o8.frozenAt _, o8.frozenAt _, hs8, f4.call hb8 (Nat.le_refl _)⟩
          have hj0 : (0 : Int) ≤ (j : Int) := by omega
          have hj1 : (j : Int) < (k : Int) := by omega
          clear hs6 v1 v2 hLit
          go_wp2_with fail
          go_region_law (first
            | (go_simp; go_at_call 59; ((with_reducible refine HA.out.mono ?_); rintro e w7 ⟨p, rfl, pI, f1, f2, f3, f4⟩))
            | (go_simp; go_at_call 59; ((with_reducible refine HB.out.mono ?_); rintro e w7 ⟨p, rfl, pI, f1, f2, f3, f4, f5⟩))
            | (go_simp; go_at_call 29; ((with_reducible refine (HSA.out w7 ⟨f1, f2, f3, f4⟩).mono ?_); rintro e w8 ⟨y, rfl, hy, m1, d0, d1, e0, e1, m2, m3⟩))
            | (go_simp; go_at_call 29; ((with_reducible refine (HSB.out w7 ⟨f1, f2, f3, f4, f5⟩).mono ?_); rintro e w8 ⟨y, rfl, hy, m1, d0, d1, e0, e1, m2, m3⟩)))
          all_goals
            have t1 := own_store resC 3 resC_len (by rw [HN.out]; exact m1) j 0 hjr (by omega) (.int .i64 p) (p, rs[j].2) rfl
            have hjr' : j < (rs.set j (p, rs[j].2)).length := by rw [List.length_set]; exact hjr
            have t2 := own_store resC 3 resC_len t1 j 1 hjr' (by omega) (.string y) (p, y, rs[j].2.2) (by simp [resC])
            rw [List.set_set] at t2
            have hl2 : (rs.set j (p, y, rs[j].2.2)).length = k := (List.length_set ..).trans HN.out
            have hrs2 := hrs.set j (r := (p, y, rs[j].2.2)) ⟨pI, hy, hri.2.2⟩
            have s2 := (m2.setCell (p := ⟨g2, j * 3 + 0, none⟩) hbg (.int .i64 p)).setCell (p := ⟨g2, j * 3 + 1, none⟩) hbg (.string y)
            have x2 := (m3.setCell (p := ⟨g2, j * 3 + 0, none⟩) (.inr hg2) (.int .i64 p)).setCell (p := ⟨g2, j * 3 + 1, none⟩) (.inr hg2) (.string y)
            simp only [Nat.add_zero] at t2 s2 x2
            go_wp2
            go_ret
            exact ⟨_, _, rfl, by rw [hl2] at t2 ⊢; exact t2, by rw [hl2]; omega, hrs2, s2.more (by omega), x2⟩
end Go.Proofs.Ytlfhommeomchoaa
