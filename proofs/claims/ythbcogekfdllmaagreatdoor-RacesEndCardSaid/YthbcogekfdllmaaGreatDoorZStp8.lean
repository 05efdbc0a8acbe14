/-
  Steps as the stream makes them: RightSteps by its contract.
-/
import Derived.Test.YthbcogekfdllmaaGreatDoorZStp1
import Derived.Test.YthbcogekfdllmaaGreatDoorZSep
import Derived.Test.YthbcogekfdllmaaGreatDoorZSlot3
import Derived.Deep.CutBlock
namespace Go.Proofs.YthbcogekfdllmaaGreatDoor
open Go Go.RowKit
attribute [local go_sem ↓] Go.wp_at_zero Go.wp_at_succ

/-- the names in a race: of the stream, and of what it turns -/
def nms6 : List ByteArray := [⟨#[97, 110, 110]⟩, ⟨#[98, 101, 97]⟩, ⟨#[99, 105, 100]⟩, ⟨#[100, 97, 110]⟩, ⟨#[]⟩, ⟨#[65]⟩]
theorem nms6_e : (⟨#[]⟩ : ByteArray) ∈ nms6 := by simp [nms6]
/-- steps up to a moment -/
structure RStp (l : List Stp) (a : Int) : Prop where
  at_ : ∀ p ∈ l, 0 ≤ p.at_ ∧ p.at_ ≤ a
  kind : ∀ p ∈ l, 1 ≤ p.kind ∧ p.kind ≤ 8
  who : ∀ p ∈ l, p.who.size ≤ 40
  go_ : ∀ p ∈ l, (p.kind = 5 ↔ p.who.size = 0)
  nm : ∀ p ∈ l, p.who ∈ nms6
  n1 : ∀ p ∈ l, p.who.size ≠ 1
  srt : l.Pairwise (fun p q => p.at_ ≤ q.at_)
theorem RStp.nil (a : Int) : RStp [] a := ⟨(by intro p hp; cases hp), (by intro p hp; cases hp), (by intro p hp; cases hp), (by intro p hp; cases hp), (by intro p hp; cases hp), (by intro p hp; cases hp), List.Pairwise.nil⟩
theorem RStp.snoc {l : List Stp} {a z k : Int} {x : ByteArray} (h : RStp l a) (ha : a ≤ z) (h0 : 0 ≤ z) (hk : 1 ≤ k ∧ k ≤ 8) (hx : x.size ≤ 40) (hg : k = 5 ↔ x.size = 0) (hn : x ∈ nms6) (h1 : x.size ≠ 1 := by first | decide | omega) : RStp (l ++ [⟨z, k, x⟩]) z := by
  refine ⟨fun p hp => ?_, fun p hp => ?_, fun p hp => ?_, fun p hp => ?_, fun p hp => ?_, fun p hp => ?_, List.pairwise_append.2 ⟨h.srt, List.pairwise_singleton _ _, fun p hp q hq => by simp at hq; subst hq; have := h.at_ p hp; show p.at_ ≤ z; omega⟩⟩ <;> rcases List.mem_append.1 hp with hp | hp
  · have := h.at_ p hp; omega
  · simp at hp; subst hp; exact ⟨h0, Int.le_refl _⟩
  · exact h.kind p hp
  · simp at hp; subst hp; exact hk
  · exact h.who p hp
  · simp at hp; subst hp; exact hx
  · exact h.go_ p hp
  · simp at hp; subst hp; exact hg
  · exact h.nm p hp
  · simp at hp; subst hp; exact hn
  · exact h.n1 p hp
  · simp at hp; subst hp; exact h1
theorem RStp.ok {l : List Stp} {a : Int} (h : RStp l a) (ha : a ≤ 345686399999) : StOk l := ⟨fun p hp => by have := h.at_ p hp; omega, h.kind, h.who, h.go_⟩
theorem flat_st (l : List Stp) (p : Stp) : (l ++ [p]).flatMap stC = l.flatMap stC ++ stC p := flat_snoc _ _ _

/-- a name of three letters -/
def IsNm (v : Value) : Prop := ∃ x : ByteArray, v = .string x ∧ x.size = 3 ∧ x ∈ nms6
section
variable {w W : World} {b K : Nat} {l : List Rsc}
theorem sp_nameL (h : Sp w b K W l) (cs : Array Value) (t : TypeId) (n : Nat) (h0 : 0 < n) (hn : n ≤ maxLen) (hs : cs.size = n) (hx : ∀ x ∈ cs.toList, ∃ z : ByteArray, x = .string z ∧ z.size = 3 ∧ z ∈ nms6) (hK : K ≤ 10000000) :
    Calls Tryz.prog 45 #[.pointer (some ⟨b, 0, none⟩), .slice (some ⟨W.heap.size, 0, none⟩) n n] (W.alloc (.cells cs t)) (SpS IsNm w b (K + 1) l) := by
  have h2 := h.add cs t
  refine (some_calls b K _ n n cs.toList _ h0 (blkRd 1 n (h2.nth 0 rfl) (h2.ne 0 rfl) hn (by omega)) (fun x hx' => by obtain ⟨z, hz, _⟩ := hx x hx'; exact ⟨z, hz⟩) h2.strm hK).mono ?_
  rintro e w' ⟨v, he, h1, hs, hb⟩
  obtain ⟨z, hz, h3⟩ := hx v h1
  exact ⟨_, he, ⟨z, hz, h3⟩, (h2.call hs hb).tail⟩
set_option maxRecDepth 100000 in
theorem stepWho_calls (h : Sp w b K W l) (i : Nat) {gx : Nat} {t : TypeId} (hi : l[i]? = some (rBlk gx t #[.pointer (some ⟨b, 0, none⟩)])) (hK : K ≤ 10000000) :
    Calls Tryz.prog 44 #[.pointer (some ⟨gx, 0, none⟩)] W (SpS IsNm w b (K + 1) l) := by
  have cx : W.cell? ⟨gx, 0, none⟩ = some (.pointer (some ⟨b, 0, none⟩)) := (h.nth i hi : Blk W gx t _).cell 0
  go_enter Tryz.func44, Tryz.ntmps44
  go_wp2_with fail
  refine (sp_nameL h #[.string ⟨#[97, 110, 110]⟩, .string ⟨#[98, 101, 97]⟩, .string ⟨#[99, 105, 100]⟩, .string ⟨#[100, 97, 110]⟩] 9 4 (by decide) (by decide) rfl ?_ hK).mono ?_
  · intro x hx
    simp only [List.mem_cons, List.not_mem_nil, or_false] at hx
    rcases hx with rfl | rfl | rfl | rfl <;> exact ⟨_, rfl, rfl, by simp [nms6]⟩
  rintro e w1 ⟨_, rfl, ⟨x, rfl, hx⟩, hS1⟩
  go_wp2_with fail
  go_ret
  exact ⟨_, rfl, ⟨x, rfl, hx⟩, hS1⟩
end
/-- right steps in new memory, drawn -/
def RStS (b K m : Nat) (w : World) (e : Ending) (w' : World) : Prop :=
  ∃ (v : Value) (l : List Stp), e = .returned v ∧ l.length = m ∧ RStp l (10 * (m : Int)) ∧ Sp w b K w' [rOwn w.heap.size 34 3 v m (l.flatMap stC)]
set_option maxRecDepth 100000 in
set_option maxHeartbeats 2000000 in
theorem rightSteps_calls (b K m : Nat) (w : World) (hs : Strm w b K) (hK : K ≤ 900000) (hm : m ≤ 24) :
    Calls Tryz.prog 6 #[.pointer (some ⟨b, 0, none⟩), .int .i64 m] w (RStS b (K + 100) m w) := by
  obtain ⟨i0, hi, hi0, hi1, hi2⟩ := info_parts info_step
  have hS00 := (Sp.start hs).add #[.pointer (some ⟨b, 0, none⟩)] 23
  have hS0 := hS00.nil w.heap.size 34 3
  clear hS00
  go_enter Tryz.func6, Tryz.ntmps6
  go_wp2_with fail
  obtain ⟨gx, hgx⟩ : ∃ gx, gx = w.heap.size := ⟨_, rfl⟩
  have hgw : w.heap.size ≤ gx := Nat.le_of_eq hgx.symm
  have HS0 : Hid (Sp w b K (w.alloc (.cells #[.pointer (some ⟨b, 0, none⟩)] 23)) [rOwn w.heap.size 34 3 (.slice none 0 0) 0 [], rBlk gx 23 #[.pointer (some ⟨b, 0, none⟩)]]) := by
    rw [hgx]; exact Lib.hid hS0
  rw [← hgx]
  clear hS0 hgx
  go_loopw [5, 6, 13] (fun v a i wr => ∃ (k : Nat) (l : List Stp) (z : Int), k ≤ m ∧ i = .int .i64 k ∧ a = .int .i64 z ∧ 0 ≤ z ∧ z ≤ 10 * (k : Int) ∧ l.length = k ∧ Hid (RStp l z) ∧ Sp w b (K + 3 * k) wr [rOwn w.heap.size 34 3 v l.length (l.flatMap stC), rBlk gx 23 #[.pointer (some ⟨b, 0, none⟩)]]) (fun _ _ i _ => m - (intOf i).toNat)
  case atStart => exact ⟨0, [], 0, Nat.zero_le _, rfl, rfl, by omega, by omega, rfl, Lib.hid (RStp.nil 0), HS0.out⟩
  case round =>
    clear HS0
    obtain ⟨k, l, z, hk, rfl, rfl, hz0, hz1, hlk, HR, hS⟩ := hrel
    by_cases hlt : k < m
    · have cx : wr.cell? ⟨gx, 0, none⟩ = some (.pointer (some ⟨b, 0, none⟩)) := (hS.nth 1 rfl : Blk wr gx _ _).cell 0
      go_wp2_with fail
      refine (sp_pickL hS #[.int .i64 0, .int .i64 1, .int .i64 5, .int .i64 10] 3 4 0 10 (by decide) (by decide) rfl rfl (by omega)).mono ?_
      rintro e w1 ⟨_, rfl, ⟨d, rfl, hd0, hd1⟩, hS1⟩
      clear hS cx
      go_upto_if 25 with (fail)
      go_cut [9] (fun s9 V => ∃ (gk n : Nat) (cs : Array Value), s9 = .slice (some ⟨gk, 0, none⟩) n n ∧ 0 < n ∧ n ≤ 8 ∧ cs.size = n ∧ Hid (intLit 1 8 cs = true) ∧ Sp w b (K + 3 * k + 1) V [rBlk gk 3 cs, rOwn w.heap.size 34 3 u5 l.length (l.flatMap stC), rBlk gx 23 #[.pointer (some ⟨b, 0, none⟩)]])
      case first =>
        have hS2 := hS1.add #[.int .i64 1, .int .i64 1, .int .i64 2, .int .i64 2, .int .i64 2, .int .i64 3, .int .i64 4, .int .i64 5] 3
        have hS3 := (hS2.add #[.int .i64 6, .int .i64 6, .int .i64 7, .int .i64 8, .int .i64 1, .int .i64 5] 3).drop 1 rfl rfl
        rw [World.size_alloc] at hS3
        clear hS1
        go_wp2_with fail
        all_goals go_meet
        all_goals first
          | exact ⟨_, 6, _, rfl, by decide, by decide, rfl, Lib.hid (by decide), hS3⟩
          | exact ⟨_, 8, _, rfl, by decide, by decide, rfl, Lib.hid (by decide), hS2⟩
      case rest =>
        obtain ⟨gk, n, cs, rfl, hn0, hn8, hcs, HL, hS2⟩ := hcut
        clear hS1
        have hSd := hS2.drew
        have hSA := ((((hS2.add #[.int .i64 0, .int .i64 0, .string ⟨#[]⟩] 34).drew.front 3 rfl rfl).front 3 rfl rfl).front 3 rfl rfl)
        have cb : wc.cell? ⟨gx, 0, none⟩ = some (.pointer (some ⟨b, 0, none⟩)) := (hS2.nth 2 rfl : Blk wc gx _ _).cell 0
        have cbA : (wc.alloc (.cells #[.int .i64 0, .int .i64 0, .string ⟨#[]⟩] 34)).cell? ⟨gx, 0, none⟩ = some (.pointer (some ⟨b, 0, none⟩)) := (hSA.nth 2 rfl : Blk _ gx _ _).cell 0
        have hn8i : (n : Int) ≤ 8 := by omega
        have HNd := Lib.hid (sp_next hSd (n : Int) (by omega) (by omega) (by omega))
        have HNa := Lib.hid (sp_next hSA (n : Int) (by omega) (by omega) (by omega))
        have hKb : K + 3 * k + 1 + 1 ≤ 10000000 := by omega
        have HKD : Hid (∀ j : Nat, (j : Int) ≤ (n : Int) - 1 → ∃ kd : Int, cs[j]? = some (.int .i64 kd) ∧ 1 ≤ kd ∧ kd ≤ 8 ∧ (j : Int) < (n : Int) ∧ j < n) := by
          refine Lib.hid (fun j hj => ?_)
          obtain ⟨kd, h1, h2, h3⟩ := intLit_at HL.out j (by omega)
          exact ⟨kd, h1, h2, h3, by omega, by omega⟩
        go_upto_region 11 with (fail)
        go_cut [10] (fun s10 V => ∃ (g : Nat) (kd : Int) (x : ByteArray), s10 = .pointer (some ⟨g, 0, none⟩) ∧ 1 ≤ kd ∧ kd ≤ 8 ∧ x.size = 3 ∧ Hid (x ∈ nms6) ∧ Sp w b (K + 3 * k + 1 + 1 + 1) V [rBlk g 34 #[.int .i64 (z + d), .int .i64 kd, .string x], rBlk gk 3 cs, rOwn w.heap.size 34 3 u5 l.length (l.flatMap stC), rBlk gx 23 #[.pointer (some ⟨b, 0, none⟩)]])
        case first =>
          clear HR hS2
          go_region_law (first
            | (go_simp; go_at_call 47; ((with_reducible refine HNd.out.mono ?_); rintro e w2 ⟨_, rfl, ⟨i, rfl, i0, i1⟩, hT⟩; obtain ⟨j, rfl⟩ := Int.eq_ofNat_of_zero_le i0; obtain ⟨kd, hkd, kd0, kd1, hjn, hjm⟩ := HKD.out j i1; have ck : w2.cell? ⟨gk, j, none⟩ = some (.int .i64 kd) := ((hT.nth 0 rfl : Blk w2 gk _ cs).cell j).trans hkd; have hTB := ((((hT.add #[.int .i64 0, .int .i64 0, .string ⟨#[]⟩] 34).front 3 rfl rfl).front 3 rfl rfl).front 3 rfl rfl); have ckA : (w2.alloc (.cells #[.int .i64 0, .int .i64 0, .string ⟨#[]⟩] 34)).cell? ⟨gk, j, none⟩ = some (.int .i64 kd) := ((hTB.nth 0 rfl : Blk _ gk _ cs).cell j).trans hkd))
            | (go_simp; go_at_call 47; ((with_reducible refine HNa.out.mono ?_); rintro e w2 ⟨_, rfl, ⟨i, rfl, i0, i1⟩, hT⟩; obtain ⟨j, rfl⟩ := Int.eq_ofNat_of_zero_le i0; obtain ⟨kd, hkd, kd0, kd1, hjn, hjm⟩ := HKD.out j i1; have ck : w2.cell? ⟨gk, j, none⟩ = some (.int .i64 kd) := ((hT.nth 0 rfl : Blk w2 gk _ cs).cell j).trans hkd))
            | (go_simp; go_at_call 44; ((with_reducible refine (stepWho_calls hT 2 rfl hKb).mono ?_); rintro e w3 ⟨_, rfl, ⟨x, rfl, hx, hxn⟩, hT3⟩; have ck3 : w3.cell? ⟨gk, j, none⟩ = some (.int .i64 kd) := ((hT3.nth 0 rfl : Blk w3 gk _ cs).cell j).trans hkd; have hk44 : Blk w3 _ _ #[.int .i64 0, .int .i64 0, .string ⟨#[]⟩] := hT3.nth 3 rfl; have y0 := hk44.cell 0; have y1 := hk44.cell 1; have y2 := hk44.cell 2; have f0 := hk44.frozen 0; have f1 := hk44.frozen 1; have f2 := hk44.frozen 2; have yl := hk44.lt))
            | (go_simp; go_at_call 44; ((with_reducible refine (stepWho_calls hT 2 rfl hKb).mono ?_); rintro e w3 ⟨_, rfl, ⟨x, rfl, hx, hxn⟩, hT3⟩; have ck3 : w3.cell? ⟨gk, j, none⟩ = some (.int .i64 kd) := ((hT3.nth 0 rfl : Blk w3 gk _ cs).cell j).trans hkd; have ck3A : (w3.alloc (.cells #[.int .i64 0, .int .i64 0, .string ⟨#[]⟩] 34)).cell? ⟨gk, j, none⟩ = some (.int .i64 kd) := (((hT3.add #[.int .i64 0, .int .i64 0, .string ⟨#[]⟩] 34).nth 1 rfl : Blk _ gk _ cs).cell j).trans hkd))
            | (go_simp; go_at_call 44; ((with_reducible refine (stepWho_calls hTB 2 rfl hKb).mono ?_); rintro e w3 ⟨_, rfl, ⟨x, rfl, hx, hxn⟩, hT3⟩; have ck3 : w3.cell? ⟨gk, j, none⟩ = some (.int .i64 kd) := ((hT3.nth 0 rfl : Blk w3 gk _ cs).cell j).trans hkd; have hk44 : Blk w3 _ _ #[.int .i64 0, .int .i64 0, .string ⟨#[]⟩] := hT3.nth 3 rfl; have y0 := hk44.cell 0; have y1 := hk44.cell 1; have y2 := hk44.cell 2; have f0 := hk44.frozen 0; have f1 := hk44.frozen 1; have f2 := hk44.frozen 2; have yl := hk44.lt)))
          all_goals (go_wp2_with fail; go_meet)
          all_goals first
            | exact ⟨_, kd, x, rfl, kd0, kd1, hx, Lib.hid hxn, hT3.add _ _⟩
            | exact ⟨_, kd, x, rfl, kd0, kd1, hx, Lib.hid hxn, (((hT3.front 3 rfl rfl).set_ 0 (.int .i64 (z + d))).set_ 1 (.int .i64 kd)).set_ 2 (.string x)⟩
        case rest =>
          obtain ⟨g, kd, x, rfl, kd0, kd1, hx, HXN, hM⟩ := hcut
          clear hSd hSA cb cbA HNd HNa HKD HL hcs hS2
          -- TAIL BEGIN
          obtain ⟨p0, p1, p2, q0, q1, q2⟩ := Blk.three (hM.head : Blk wc g _ #[.int .i64 (z + d), .int .i64 kd, .string x])
          by_cases he : (k : Int) = (m : Int) / 2
          · have heb : ((k : Int) == (m : Int) / 2) = true := by simpa using he
            clear kd0 kd1 hx
            go_upto_region 16 with (fail)
            have hM2 := ((hM.set_ 1 (.int .i64 5)).set_ 2 (.string ⟨#[]⟩))
            obtain ⟨W2, hW2⟩ : ∃ W2, W2 = (wc.setCell ⟨g, 1, none⟩ (.int .i64 5)).setCell ⟨g, 2, none⟩ (.string ⟨#[]⟩) := ⟨_, rfl⟩
            rw [← hW2] at hM2 ⊢
            clear hW2 hM p0 p1 p2 q0 q1 q2
            have hM3 := ((hM2.drop 1 rfl rfl).front 1 rfl rfl)
            obtain ⟨p0, p1, p2, _, _, _⟩ := Blk.three (hM3.nth 1 rfl : Blk W2 g _ #[.int .i64 (z + d), .int .i64 5, .string ⟨#[]⟩])
            have HO : W2.ownsRow w.heap.size 34 3 u5 l.length (l.flatMap stC) := hM3.head
            have hz2 := hM3.size
            have HR2 : Hid (RStp (l ++ [⟨z + d, 5, ⟨#[]⟩⟩]) (z + d)) := HR.out.snoc (by omega) (by omega) (by omega) (by show 0 ≤ 40; omega) ⟨fun _ => rfl, fun _ => rfl⟩ nms6_e
            clear hM2
            go_wp2_with (first
              | (at_builtin; refine wpList_append_own_at _ rfl _ _ 26 rfl w.heap.size 34 i0 (.agg #[.int .i64 0, .int .i64 0, .string ⟨#[]⟩]) 3 32 Tryz.underlying26 hi hi0 hi1 hi2 rfl (by decide) _ _ _ rfl (HO.alloc _) ⟨W2.heap.size, 0, none⟩ 1 1 [.int .i64 (z + d), .int .i64 5, .string ⟨#[]⟩] rfl rfl (World.news_of_block (heap_alloc_new _ _)) (one3s rfl rfl rfl) (by unfold maxLen; omega) (by omega) (by simp; omega) ?_; intro v' w8 hown' hgrow _ hblk; have hS8 := (hM3.alloc _).append hown' hgrow hblk; clear hown' hgrow hblk HO))
            have hS9 : Sp w b (K + 3 * k + 1 + 1 + 1) w8 [rOwn w.heap.size 34 3 v' (l ++ [(⟨z + d, 5, ⟨#[]⟩⟩ : Stp)]).length ((l ++ [(⟨z + d, 5, ⟨#[]⟩⟩ : Stp)]).flatMap stC), rBlk gx 23 #[.pointer (some ⟨b, 0, none⟩)]] := by
              rw [flat_st, List.length_append]
              exact hS8.drop 1 rfl rfl
            go_roundw
            case rel => exact ⟨k + 1, _, z + d, by omega, by go_num, rfl, by omega, by omega, by simp; omega, HR2, hS9.more (by omega)⟩
            case measure => simp [intOf]; omega
          · have heb : ((k : Int) == (m : Int) / 2) = false := by simpa using he
            by_cases hk5 : kd = 5
            · subst hk5
              clear hx
              go_upto_region 16 with (fail)
              have hM2 := (hM.set_ 2 (.string ⟨#[]⟩))
              obtain ⟨W2, hW2⟩ : ∃ W2, W2 = wc.setCell ⟨g, 2, none⟩ (.string ⟨#[]⟩) := ⟨_, rfl⟩
              rw [← hW2] at hM2 ⊢
              clear hW2 hM p0 p1 p2 q0 q1 q2
              have hM3 := ((hM2.drop 1 rfl rfl).front 1 rfl rfl)
              obtain ⟨p0, p1, p2, _, _, _⟩ := Blk.three (hM3.nth 1 rfl : Blk W2 g _ #[.int .i64 (z + d), .int .i64 5, .string ⟨#[]⟩])
              have HO : W2.ownsRow w.heap.size 34 3 u5 l.length (l.flatMap stC) := hM3.head
              have hz2 := hM3.size
              have HR2 : Hid (RStp (l ++ [⟨z + d, 5, ⟨#[]⟩⟩]) (z + d)) := HR.out.snoc (by omega) (by omega) (by omega) (by show 0 ≤ 40; omega) ⟨fun _ => rfl, fun _ => rfl⟩ nms6_e
              clear hM2
              go_wp2_with (first
                | (at_builtin; refine wpList_append_own_at _ rfl _ _ 26 rfl w.heap.size 34 i0 (.agg #[.int .i64 0, .int .i64 0, .string ⟨#[]⟩]) 3 32 Tryz.underlying26 hi hi0 hi1 hi2 rfl (by decide) _ _ _ rfl (HO.alloc _) ⟨W2.heap.size, 0, none⟩ 1 1 [.int .i64 (z + d), .int .i64 5, .string ⟨#[]⟩] rfl rfl (World.news_of_block (heap_alloc_new _ _)) (one3s rfl rfl rfl) (by unfold maxLen; omega) (by omega) (by simp; omega) ?_; intro v' w8 hown' hgrow _ hblk; have hS8 := (hM3.alloc _).append hown' hgrow hblk; clear hown' hgrow hblk HO))
              have hS9 : Sp w b (K + 3 * k + 1 + 1 + 1) w8 [rOwn w.heap.size 34 3 v' (l ++ [(⟨z + d, 5, ⟨#[]⟩⟩ : Stp)]).length ((l ++ [(⟨z + d, 5, ⟨#[]⟩⟩ : Stp)]).flatMap stC), rBlk gx 23 #[.pointer (some ⟨b, 0, none⟩)]] := by
                rw [flat_st, List.length_append]
                exact hS8.drop 1 rfl rfl
              go_roundw
              case rel => exact ⟨k + 1, _, z + d, by omega, by go_num, rfl, by omega, by omega, by simp; omega, HR2, hS9.more (by omega)⟩
              case measure => simp [intOf]; omega
            · skip
              go_upto_region 16 with (fail)
              have hM2 := hM
              obtain ⟨W2, hW2⟩ : ∃ W2, W2 = wc := ⟨_, rfl⟩
              rw [← hW2] at hM2 ⊢
              clear hW2 hM p0 p1 p2 q0 q1 q2
              have hM3 := ((hM2.drop 1 rfl rfl).front 1 rfl rfl)
              obtain ⟨p0, p1, p2, _, _, _⟩ := Blk.three (hM3.nth 1 rfl : Blk W2 g _ #[.int .i64 (z + d), .int .i64 kd, .string x])
              have HO : W2.ownsRow w.heap.size 34 3 u5 l.length (l.flatMap stC) := hM3.head
              have hz2 := hM3.size
              have HR2 : Hid (RStp (l ++ [⟨z + d, kd, x⟩]) (z + d)) := HR.out.snoc (by omega) (by omega) (by omega) (by omega) ⟨fun h => absurd h hk5, fun h => by omega⟩ HXN.out
              clear hM2
              go_wp2_with (first
                | (at_builtin; refine wpList_append_own_at _ rfl _ _ 26 rfl w.heap.size 34 i0 (.agg #[.int .i64 0, .int .i64 0, .string ⟨#[]⟩]) 3 32 Tryz.underlying26 hi hi0 hi1 hi2 rfl (by decide) _ _ _ rfl (HO.alloc _) ⟨W2.heap.size, 0, none⟩ 1 1 [.int .i64 (z + d), .int .i64 kd, .string x] rfl rfl (World.news_of_block (heap_alloc_new _ _)) (one3s rfl rfl rfl) (by unfold maxLen; omega) (by omega) (by simp; omega) ?_; intro v' w8 hown' hgrow _ hblk; have hS8 := (hM3.alloc _).append hown' hgrow hblk; clear hown' hgrow hblk HO))
              have hS9 : Sp w b (K + 3 * k + 1 + 1 + 1) w8 [rOwn w.heap.size 34 3 v' (l ++ [(⟨z + d, kd, x⟩ : Stp)]).length ((l ++ [(⟨z + d, kd, x⟩ : Stp)]).flatMap stC), rBlk gx 23 #[.pointer (some ⟨b, 0, none⟩)]] := by
                rw [flat_st, List.length_append]
                exact hS8.drop 1 rfl rfl
              go_roundw
              case rel => exact ⟨k + 1, _, z + d, by omega, by go_num, rfl, by omega, by omega, by simp; omega, HR2, hS9.more (by omega)⟩
              case measure => simp [intOf]; omega
          -- TAIL END
    · obtain rfl : k = m := by omega
      go_wp2_with fail
      go_ret
      exact ⟨_, l, rfl, hlk, ⟨fun p hp => by have := HR.out.at_ p hp; omega, HR.out.kind, HR.out.who, HR.out.go_, HR.out.nm, HR.out.n1, HR.out.srt⟩, by
        have h := (hS.drop 1 rfl rfl).more (K' := K + 100) (by omega)
        rw [hlk] at h
        exact h⟩
end Go.Proofs.YthbcogekfdllmaaGreatDoor
