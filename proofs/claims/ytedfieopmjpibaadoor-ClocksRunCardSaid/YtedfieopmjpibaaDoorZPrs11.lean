/-
  The reference's press of any kind, and played, by contracts. (Printed by gen_prs11.py.)
-/
import Derived.Test.YtedfieopmjpibaaDoorZPrs10
import Derived.Deep.CutBlock
namespace Go.Proofs.YtedfieopmjpibaaDoor
open Go Go.RowKit
attribute [local go_sem ↓] Go.wp_at_zero Go.wp_at_succ

theorem qpress_calls (w0 : World) (ga g n : Nat) (a : Option Att) (A1 : Option Addr) (c1 : Nat) (A2 : Option Addr) (c2 : Nat) (t k : Int) (l : List Rsc) (w : World)
    (hS : Sq w0 w (rBlk ga 69 #[attV a g] :: attL w0.heap.size a g A1 c1 A2 c2 l)) (hb : ∀ x, a = some x → x.ended.length ≤ 100000 ∧ x.breaks.length ≤ 100000) (hn : n ≤ 100000) (hk : 1 ≤ k ∧ k ≤ 9) :
    Calls Tryd.prog 51 #[.pointer (some ⟨ga, 0, none⟩), .int .i64 n, .agg #[.int .i64 t, .int .i64 k]] w (QrG w0 ga n a (t, k) l) := by
  cases a with
  | none =>
    rcases (show k = 1 ∨ k = 2 ∨ k = 3 ∨ k = 4 ∨ k = 5 ∨ k = 6 ∨ k = 7 ∨ k = 8 ∨ k = 9 by omega) with rfl | rfl | rfl | rfl | rfl | rfl | rfl | rfl | rfl
    · exact qpress0_1 w0 ga n t l w hS
    · exact qpress0_2 w0 ga n t l w hS
    · exact qpress0_3 w0 ga n t l w hS
    · exact qpress0_4 w0 ga n t l w hS
    · exact qpress0_5 w0 ga n t l w hS
    · exact qpress0_6 w0 ga n t l w hS
    · exact qpress0_7 w0 ga n t l w hS
    · exact qpress0_8 w0 ga n t l w hS
    · exact qpress0_9 w0 ga n t l w hS
  | some x =>
    obtain ⟨h1, h2⟩ := hb x rfl
    rcases (show k = 1 ∨ k = 2 ∨ k = 3 ∨ k = 4 ∨ k = 5 ∨ k = 6 ∨ k = 7 ∨ k = 8 ∨ k = 9 by omega) with rfl | rfl | rfl | rfl | rfl | rfl | rfl | rfl | rfl
    · exact qpress1_1 w0 ga g n x A1 c1 A2 c2 t l w hS h1 h2 hn
    · exact qpress1_2 w0 ga g n x A1 c1 A2 c2 t l w hS h1 h2 hn
    · exact qpress1_3 w0 ga g n x A1 c1 A2 c2 t l w hS h1 h2 hn
    · exact qpress1_4 w0 ga g n x A1 c1 A2 c2 t l w hS h1 h2 hn
    · exact qpress1_5 w0 ga g n x A1 c1 A2 c2 t l w hS h1 h2 hn
    · exact qpress1_6 w0 ga g n x A1 c1 A2 c2 t l w hS h1 h2 hn
    · exact qpress1_7 w0 ga g n x A1 c1 A2 c2 t l w hS h1 h2 hn
    · exact qpress1_8 w0 ga g n x A1 c1 A2 c2 t l w hS h1 h2 hn
    · exact qpress1_9 w0 ga g n x A1 c1 A2 c2 t l w hS h1 h2 hn

/-! ### the attempt among other things -/
section
variable {w W : World} {base ga g : Nat} {a : Option Att} {A1 A2 : Option Addr} {c1 c2 : Nat} {l : List Rsc} {r q : Rsc}
theorem att_out (h : Sq w W (q :: attL base a g A1 c1 A2 c2 (r :: l))) : Sq w W (r :: q :: attL base a g A1 c1 A2 c2 l) := by
  cases a with
  | none => exact h.front 1 rfl rfl
  | some x => exact h.front 4 rfl rfl
theorem att_in (h : Sq w W (r :: q :: attL base a g A1 c1 A2 c2 l)) : Sq w W (q :: attL base a g A1 c1 A2 c2 (r :: l)) := by
  cases a with
  | none => exact h.front 1 rfl rfl
  | some x => exact ((((h.front 4 rfl rfl).front 4 rfl rfl).front 4 rfl rfl).front 4 rfl rfl)
theorem att_at (h : Sq w W (q :: attL base a g A1 c1 A2 c2 l)) : ∀ x, a = some x → AttAt W W.heap.size g x A1 c1 A2 c2 := by
  intro x hx
  subst hx
  have hE1 : W.ownsRow base 61 2 (.slice A1 x.ended.length c1) x.ended.length (x.ended.flatMap pzC) := h.nth 2 rfl
  have hE2 : W.ownsRow base 61 2 (.slice A2 x.breaks.length c2) x.breaks.length (x.breaks.flatMap pzC) := h.nth 3 rfl
  exact ⟨h.nth 1 rfl, Rd.of_own hE1 (fun k hk => by have := (hE1.lt k hk).2; omega), Rd.of_own hE2 (fun k hk => by have := (hE2.lt k hk).2; omega)⟩
end

/-! ### bounds -/
structure QB (k : Nat) (q : PlSt) : Prop where
  ended : ∀ x, q.a = some x → x.ended.length ≤ k
  breaks : ∀ x, q.a = some x → x.breaks.length ≤ k
  refused : q.refused.length ≤ k
  begun : 0 ≤ q.begun ∧ q.begun ≤ k
  done : 0 ≤ q.done ∧ q.done ≤ k
theorem pla_bd (n : Nat) (l : List Pz) : ∀ k, k ≤ l.length → QB k (plaQ n l k)
  | 0, _ => by
    refine ⟨?_, ?_, ?_, ?_, ?_⟩ <;> simp [plaQ]
  | k + 1, hk => by
    have hlt : k < l.length := by omega
    have ih := pla_bd n l k (by omega)
    obtain ⟨i1, i2, i3, i4, i5⟩ := ih
    rw [plaQ_step n l k hlt]
    obtain ⟨q, hq⟩ : ∃ q, plaQ n l k = q := ⟨_, rfl⟩
    obtain ⟨p, hp⟩ : ∃ p, l[k] = p := ⟨_, rfl⟩
    rw [hq] at i1 i2 i3 i4 i5 ⊢
    rw [hp]
    split
    · exact ⟨fun x hx => Nat.le_succ_of_le (i1 x hx), fun x hx => Nat.le_succ_of_le (i2 x hx), by simp; omega, by simp only; omega, by simp only; omega⟩
    · refine ⟨fun x hx => ?_, fun x hx => ?_, by simp only; omega, by simp only; split <;> omega, by simp only; split <;> omega⟩
      · simp only at hx
        unfold doneQ at hx
        split at hx
        · injection hx with hx; subst hx; simp
        · split at hx
          · obtain ⟨y, hy, he⟩ := Option.map_eq_some_iff.1 hx
            subst he
            have := i1 y hy
            simp; omega
          · split at hx
            · obtain ⟨y, hy, he⟩ := Option.map_eq_some_iff.1 hx
              subst he
              have := i1 y hy
              simp; omega
            · split at hx
              · obtain ⟨y, hy, he⟩ := Option.map_eq_some_iff.1 hx
                subst he
                have := i1 y hy
                simp only; omega
              · cases hx
      · simp only at hx
        unfold doneQ at hx
        split at hx
        · injection hx with hx; subst hx; simp
        · split at hx
          · obtain ⟨y, hy, he⟩ := Option.map_eq_some_iff.1 hx
            subst he
            have := i2 y hy
            simp only; omega
          · split at hx
            · obtain ⟨y, hy, he⟩ := Option.map_eq_some_iff.1 hx
              subst he
              have := i2 y hy
              simp only; omega
            · split at hx
              · obtain ⟨y, hy, he⟩ := Option.map_eq_some_iff.1 hx
                subst he
                have := i2 y hy
                simp; omega
              · cases hx

/-- where a walk through presses up to a moment stops -/
structure Stop (l : List Pz) (u : Int) (K : Nat) : Prop where
  le : K ≤ l.length
  up : ∀ i (h : i < l.length), i < K → l[i].1 ≤ u
  end_ : ∀ h : K < l.length, u < l[K].1
def donQ (n : Nat) (q : PlSt) : Int := if phaseQ n q.a = 3 then q.done + 1 else q.done
def PlS (n : Nat) (l : List Pz) (u : Int) (w : World) (e : Ending) (w' : World) : Prop :=
  ∃ (K g : Nat) (A1 : Option Addr) (c1 : Nat) (A2 : Option Addr) (c2 : Nat) (A3 : Option Addr) (c3 : Nat), Stop l u K ∧
    e = .returned (.tuple #[attV (plaQ n l K).a g, .slice A3 (plaQ n l K).refused.length c3, .int .i64 (plaQ n l K).begun, .int .i64 (donQ n (plaQ n l K))]) ∧
    Sq w w' (attL w.heap.size (plaQ n l K).a g A1 c1 A2 c2 [rOwn w.heap.size 3 1 (.slice A3 (plaQ n l K).refused.length c3) (plaQ n l K).refused.length ((plaQ n l K).refused.map (Value.int .i64))])

set_option maxRecDepth 100000 in
set_option maxHeartbeats 4000000 in
theorem played_calls (b n : Nat) (A : Option Addr) (m c : Nat) (l : List Pz) (u : Int) (w : World) (hr : Rd w b 2 (.slice A m c) m (l.flatMap pzC)) (hn : n ≤ 100000) (hl : PzOk l) (hm : m ≤ 2000) :
    Calls Tryd.prog 34 #[.int .i64 n, .slice A m c, .int .i64 u] w (PlS n l u w) := by
  obtain ⟨j0, hj, hy0, hy1, hy2⟩ := info_parts info_int
  obtain ⟨hlen, hnc, hcm, hcells⟩ := hr.cells pzC_len (by omega)
  unfold maxLen at hcm
  have HL := Lib.hid hlen
  have HC := Lib.hid hcells
  have HOK := Lib.hid hl
  have HBD := Lib.hid (pla_bd n l)
  have hS0 : Sq w (w.alloc (.cells #[.pointer none] 69)) (rBlk w.heap.size 69 #[attV (plaQ n l 0).a 0] :: attL w.heap.size (plaQ n l 0).a 0 none 0 none 0 [rOwn w.heap.size 3 1 (.slice none (plaQ n l 0).refused.length 0) (plaQ n l 0).refused.length ((plaQ n l 0).refused.map (Value.int .i64))]) :=
    ((Sq.start w).nil w.heap.size 3 1).add #[.pointer none] 69
  clear hcells hlen hl hr
  go_enter Tryd.func34, Tryd.ntmps34
  go_upto_block 0 with (fail)
  go_cut [11, 12, 13] (fun s11 s12 s13 W => ∃ (K g : Nat) (A1 : Option Addr) (c1 : Nat) (A2 : Option Addr) (c2 : Nat) (A3 : Option Addr) (c3 : Nat), Stop l u K ∧ s11 = .slice A3 (plaQ n l K).refused.length c3 ∧ s12 = .int .i64 (plaQ n l K).begun ∧ s13 = .int .i64 (plaQ n l K).done ∧
    Sq w W (rBlk w.heap.size 69 #[attV (plaQ n l K).a g] :: attL w.heap.size (plaQ n l K).a g A1 c1 A2 c2 [rOwn w.heap.size 3 1 (.slice A3 (plaQ n l K).refused.length c3) (plaQ n l K).refused.length ((plaQ n l K).refused.map (Value.int .i64))]))
  case first =>
    go_wp2_with fail
    go_loopw [11, 12, 13, 19] (fun rf bg dn i wr => ∃ (k g : Nat) (A1 : Option Addr) (c1 : Nat) (A2 : Option Addr) (c2 : Nat) (A3 : Option Addr) (c3 : Nat), k ≤ m ∧ i = .int .i64 k ∧ rf = .slice A3 (plaQ n l k).refused.length c3 ∧ bg = .int .i64 (plaQ n l k).begun ∧ dn = .int .i64 (plaQ n l k).done ∧ Hid (∀ i (h : i < l.length), i < k → l[i].1 ≤ u) ∧
      Sq w wr (rBlk w.heap.size 69 #[attV (plaQ n l k).a g] :: attL w.heap.size (plaQ n l k).a g A1 c1 A2 c2 [rOwn w.heap.size 3 1 (.slice A3 (plaQ n l k).refused.length c3) (plaQ n l k).refused.length ((plaQ n l k).refused.map (Value.int .i64))])) (fun _ _ _ i _ => m - (intOf i).toNat)
    case atStart => exact ⟨0, 0, none, 0, none, 0, none, 0, Nat.zero_le _, rfl, rfl, rfl, rfl, (fun i h hi => absurd hi (by omega)), hS0⟩
    case round =>
      clear hS0
      obtain ⟨k, g, A1, c1, A2, c2, A3, c3, hk, rfl, rfl, rfl, rfl, HU, hS⟩ := hrel
      by_cases hlt : k < m
      · have hkr : k < l.length := by rw [HL.out]; exact hlt
        obtain ⟨gl, o, hA, _, hcs⟩ := HC.out (by omega)
        subst hA
        have hst := plaQ_step n l k hkr
        have hpk := HOK.out.kind _ (List.getElem_mem hkr)
        have x0 := below_cell hS.below (hcs k hkr 0 (by omega))
        have x1 := below_cell hS.below (hcs k hkr 1 (by omega))
        have HU2 : Hid (l[k].1 ≤ u → ∀ i (h : i < l.length), i < k + 1 → l[i].1 ≤ u) := fun h0 i h hi => by
          by_cases he : i = k
          · subst he; exact h0
          · exact HU.out i h (by omega)
        have HST : Hid (u < l[k].1 → Stop l u k) := fun h0 => ⟨by omega, HU.out, fun _ => h0⟩
        obtain ⟨p, hp⟩ : ∃ p, l[k] = p := ⟨_, rfl⟩
        rw [hp] at hst hpk x0 x1 HU2 HST
        obtain ⟨t, kd⟩ := p
        simp only at hpk
        replace x0 : wr.cell? ⟨gl, o + k * 2, none⟩ = some (.int .i64 t) := x0
        replace x1 : wr.cell? ⟨gl, o + k * 2 + 1, none⟩ = some (.int .i64 kd) := x1
        have hqb := HBD.out k (by omega)
        have hz := hS.size
        have hSa := hS.add #[.int .i64 t, .int .i64 kd] 61
        by_cases hu : u < t
        · have HSTOP := Lib.hid (HST.out hu)
          have hSx := hSa.tail
          clear hcs hp hst hS hSa
          go_wp2_with fail
          go_meet
          exact ⟨k, g, A1, c1, A2, c2, A3, c3, HSTOP.out, rfl, rfl, rfl, hSx⟩
        · have HUN := Lib.hid (HU2.out (by simp only; omega))
          obtain ⟨Q, hQ⟩ : ∃ Q, plaQ n l k = Q := ⟨_, rfl⟩
          rw [hQ] at hst hqb hS hSa ⊢
          obtain ⟨qa, qr, qb, qd⟩ := Q
          simp only at hst hS hSa
          have q1 := hqb.ended
          have q2 := hqb.breaks
          have q3 := hqb.refused
          have q4 := hqb.begun
          have q5 := hqb.done
          simp only at q1 q2 q3 q4 q5
          have HPH := Lib.hid (phase_calls _ g n qa A1 c1 A2 c2 _ (att_at hSa.tail))
          obtain ⟨y0, y1, _, _⟩ := Blk.two (hSa.nth 0 rfl)
          obtain ⟨z0, _⟩ := Blk.one (show Blk _ w.heap.size 69 #[attV qa g] from hSa.nth 1 rfl)
          obtain ⟨ph, hph⟩ : ∃ ph, phaseQ n qa = ph := ⟨_, rfl⟩
          rw [hph] at HPH hst
          obtain ⟨B, hB⟩ : ∃ B, refQ n qa kd = B := ⟨_, rfl⟩
          have HQQ := Lib.hid q1
          have HQ2 := Lib.hid q2
          clear hcs hp HST HU2 hQ hS hqb q1 q2
          go_wp2_with fail
          refine HPH.out.mono ?_
          rintro e w1 ⟨rfl, hb1⟩
          have hS1 := att_in (hSa.callB hb1)
          have hz1 := hb1.size
          have y2 := below_cell hb1 y0
          have y3 := below_cell hb1 y1
          have HP := Lib.hid (qpress_calls w w.heap.size g n qa A1 c1 A2 c2 t kd _ w1 hS1 (fun x hx => ⟨by have := HQQ.out x hx; omega, by have := HQ2.out x hx; omega⟩) hn hpk)
          clear y0 y1 z0 hSa hS1 hb1 HPH hph
          go_wp2_with fail
          refine HP.out.mono ?_
          rintro e w2 ⟨rfl, g', B1, d1, B2, d2, hS2⟩
          simp only
          rw [hB]
          have hz2 := hS2.size
          cases B
          · have hpq : pressQ n qa (t, kd) = doneQ qa (t, kd) := by unfold pressQ; simp only; rw [hB, if_neg (by decide)]
            rw [hB, if_neg (by decide)] at hst
            rw [hpq] at hS2
            obtain ⟨a2, ha2⟩ : ∃ a2, doneQ qa (t, kd) = a2 := ⟨_, rfl⟩
            rw [ha2] at hst hS2
            have hG : Blk w2 wr.heap.size 61 #[.int .i64 t, .int .i64 kd] := (att_out hS2).nth 0 rfl
            obtain ⟨y4, y5, _, _⟩ := hG.two
            have hS4 := (att_out hS2).tail
            clear hS2 hpq ha2 HP hB hG y2 y3
            by_cases h1 : kd = 1
            · subst h1
              have HN : Hid (plaQ n l (k + 1) = ⟨a2, qr, qb + 1, qd⟩) := hst
              clear hst
              go_wp2_with fail
              go_roundw
              case rel => exact ⟨k + 1, g', B1, d1, B2, d2, A3, c3, by omega, by go_num, by rw [HN.out], by rw [HN.out], by rw [HN.out], HUN, by rw [HN.out]; exact hS4⟩
              case measure => simp [intOf]; omega
            · have e1 : (kd == 1) = false := by simpa using h1
              by_cases h9 : kd = 9
              · subst h9
                by_cases h3 : ph = 3
                · subst h3
                  have HN : Hid (plaQ n l (k + 1) = ⟨a2, qr, qb, qd + 1⟩) := hst
                  clear hst
                  go_wp2_with fail
                  go_roundw
                  case rel => exact ⟨k + 1, g', B1, d1, B2, d2, A3, c3, by omega, by go_num, by rw [HN.out], by rw [HN.out], by rw [HN.out], HUN, by rw [HN.out]; exact hS4⟩
                  case measure => simp [intOf]; omega
                · have e3 : (ph == 3) = false := by simpa using h3
                  have HN : Hid (plaQ n l (k + 1) = ⟨a2, qr, qb, qd⟩) := by rw [hst, if_neg (by omega), if_neg (by omega)]; exact Lib.hid rfl
                  clear hst h3
                  go_wp2_with fail
                  go_roundw
                  case rel => exact ⟨k + 1, g', B1, d1, B2, d2, A3, c3, by omega, by go_num, by rw [HN.out], by rw [HN.out], by rw [HN.out], HUN, by rw [HN.out]; exact hS4⟩
                  case measure => simp [intOf]; omega
              · have e9 : (kd == 9) = false := by simpa using h9
                have HN : Hid (plaQ n l (k + 1) = ⟨a2, qr, qb, qd⟩) := by rw [hst, if_neg h1, if_neg (by omega)]; exact Lib.hid rfl
                clear hst h1 h9
                go_wp2_with fail
                go_roundw
                case rel => exact ⟨k + 1, g', B1, d1, B2, d2, A3, c3, by omega, by go_num, by rw [HN.out], by rw [HN.out], by rw [HN.out], HUN, by rw [HN.out]; exact hS4⟩
                case measure => simp [intOf]; omega
          · have hpq : pressQ n qa (t, kd) = qa := by unfold pressQ; simp only; rw [hB, if_pos rfl]
            rw [hB, if_pos rfl] at hst
            rw [hpq] at hS2
            have HN : Hid (plaQ n l (k + 1) = ⟨qa, qr ++ [(k : Int)], qb, qd⟩) := hst
            have hSf := att_out (att_out hS2).tail
            have HO : w2.ownsRow w.heap.size 3 1 (.slice A3 qr.length c3) qr.length (qr.map (Value.int .i64)) := hSf.head
            clear hst hS2 hpq HP hB y2 y3
            go_wp2_with (first
              | (at_builtin; refine wpList_append_own_at _ rfl _ _ 22 rfl w.heap.size 3 j0 (.int .i64 0) 1 8 Tryd.underlying22 hj hy0 hy1 hy2 rfl (by decide) _ _ _ rfl (HO.alloc _) ⟨w2.heap.size, 0, none⟩ 1 1 [.int .i64 k] rfl rfl (World.news_of_block (heap_alloc_new _ _)) (one1 rfl) (by unfold maxLen; omega) (by omega) (by simp; omega) ?_; intro v' w8 hown' hgrow _ hblk; obtain ⟨A8, c8, hv8⟩ := own_form hown'; subst hv8; have hS8 := (hSf.alloc _).append hown' hgrow hblk; clear hown' hgrow hblk HO))
            have hS9 := att_in hS8
            go_roundw
            case rel => exact ⟨k + 1, g', B1, d1, B2, d2, A8, c8, by omega, by go_num, by rw [HN.out, List.length_append]; rfl, by rw [HN.out], by rw [HN.out], HUN, by rw [HN.out, List.length_append, List.map_append]; exact hS9⟩
            case measure => simp [intOf]; omega
      · obtain rfl : k = m := by omega
        have HST : Hid (Stop l u k) := ⟨by rw [HL.out]; exact Nat.le_refl _, HU.out, fun h => absurd h (by rw [HL.out]; omega)⟩
        go_wp2_with fail
        go_meet
        exact ⟨k, g, A1, c1, A2, c2, A3, c3, HST.out, rfl, rfl, rfl, hS⟩
  case rest =>
    obtain ⟨K, g, A1, c1, A2, c2, A3, c3, hst, rfl, rfl, rfl, hS⟩ := hcut
    rename_i wc
    have HST := Lib.hid hst
    have hqb := HBD.out K hst.le
    have q5 := hqb.done
    obtain ⟨z0, _⟩ := Blk.one (show Blk wc w.heap.size 69 #[attV (plaQ n l K).a g] from hS.head)
    have HPH := Lib.hid (phase_calls _ g n (plaQ n l K).a A1 c1 A2 c2 _ (att_at hS))
    have HDN : Hid (donQ n (plaQ n l K) = if phaseQ n (plaQ n l K).a = 3 then (plaQ n l K).done + 1 else (plaQ n l K).done) := rfl
    obtain ⟨ph, hph⟩ : ∃ ph, phaseQ n (plaQ n l K).a = ph := ⟨_, rfl⟩
    rw [hph] at HPH HDN
    have hKm : K ≤ m := by have := hst.le; rw [HL.out] at this; exact this
    clear hst hqb hph hS0
    have hbd : 0 ≤ (plaQ n l K).done ∧ (plaQ n l K).done ≤ 2000 := by omega
    obtain ⟨bd0, bd1⟩ := hbd
    obtain ⟨QV, hQV⟩ : ∃ QV, attV (plaQ n l K).a g = QV := ⟨_, rfl⟩
    rw [hQV] at z0 HPH
    have HQV := Lib.hid hQV
    go_wp2_with fail
    refine HPH.out.mono ?_
    rintro e w1 ⟨rfl, hb1⟩
    have z1 := below_cell hb1 z0
    have hS1 := hS.callB hb1
    clear z0 hQV
    by_cases h3 : ph = 3
    · subst h3
      rw [if_pos rfl] at HDN
      go_wp2_with fail
      refine bodyPost_ret (v := .tuple #[QV, .slice A3 (plaQ n l K).refused.length c3, .int .i64 (plaQ n l K).begun, .int .i64 ((plaQ n l K).done + 1)]) (by simp [results, Tryd.results34, go_sem]) rfl ?_
      rw [← HDN.out, ← HQV.out]
      exact ⟨K, g, A1, c1, A2, c2, A3, c3, HST.out, rfl, hS1.tail⟩
    · have e3 : (ph == 3) = false := by simpa using h3
      rw [if_neg h3] at HDN
      go_wp2_with fail
      refine bodyPost_ret (v := .tuple #[QV, .slice A3 (plaQ n l K).refused.length c3, .int .i64 (plaQ n l K).begun, .int .i64 (plaQ n l K).done]) (by simp [results, Tryd.results34, go_sem]) rfl ?_
      rw [← HQV.out]
      refine ⟨K, g, A1, c1, A2, c2, A3, c3, HST.out, ?_, hS1.tail⟩
      rw [HDN.out]
end Go.Proofs.YtedfieopmjpibaaDoor
