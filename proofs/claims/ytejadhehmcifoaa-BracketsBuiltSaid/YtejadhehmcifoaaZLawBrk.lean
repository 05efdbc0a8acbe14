/-
  BracketsBuilt: the law's own walk.
-/
import Derived.Test.YtejadhehmcifoaaZStream
import Derived.Test.YtejadhehmcifoaaZStrong
import Derived.Test.YtejadhehmcifoaaZEqGm
import Derived.Test.YtejadhehmcifoaaZAdv3
import Derived.Test.YtejadhehmcifoaaZRaced
import Derived.Deep.DeepCutAuto
namespace Go.Proofs.Ytejadhehmcifoaa
open Go Go.RowKit

def catS (x y : ByteArray) : ByteArray := x ++ y
theorem catS_size (x y : ByteArray) : (catS x y).size = x.size + y.size := by unfold catS; exact ByteArray.size_append
theorem run_cat (x y : ByteArray) (h : x.size ≤ 2000 ∧ y.size ≤ 2000) (w : World) : (Op.stringOp .add x y).run Try.prog w = .ok (.string (catS x y)) w := by
  refine run_string_add_sum _ _ _ ?_
  omega
theorem brkA_len {who : List ByteArray} (h : who.length ≤ 17) : (brkA who).length = 0 ∨ (brkA who).length = 1 ∨ (brkA who).length ∈ pw6 := by
  unfold brkA
  by_cases h0 : brkE who = 0
  · rw [if_pos h0]
    have h2 : 2 ≤ who.length := by
      unfold brkE at h0
      rw [if_neg (by omega)] at h0
      by_cases h2 : who.length < 2
      · rw [if_pos h2] at h0
        exact absurd h0 (by decide)
      · omega
    have hl : (brkL who).length = 2 ^ (upP who.length 8 0) / 2 := by unfold brkL; rw [twos_len, plP_len]
    rw [hl]
    have hd : ∀ n : Fin 18, 2 ≤ n.1 → (2 ^ (upP n.1 8 0) / 2 = 1 ∨ 2 ^ (upP n.1 8 0) / 2 ∈ pw6) := by decide
    exact .inr (hd ⟨who.length, by omega⟩ h2)
  · rw [if_neg h0]
    exact .inl rfl
theorem whoF_size {who : List ByteArray} (h : ∀ s ∈ who, s.size ≤ 1000) (p : Int) : (whoF who p).size ≤ 1000 := by
  unfold whoF
  split
  · exact Nat.zero_le _
  · cases hq : who[(p - 1).toNat]? with
    | none => exact Nat.zero_le _
    | some s => exact h s (List.mem_of_getElem? hq)
theorem twos_mem {α β : Type} (f : α → β) (P : β → Prop) (h : ∀ a, P (f a)) : ∀ l : List α, ∀ g ∈ twos f l, P g.1 ∧ P g.2
  | [], _, hg => by cases hg
  | [_], _, hg => by cases hg
  | a :: b :: l, g, hg => by
    rw [twos] at hg
    rcases List.mem_cons.1 hg with rfl | hg
    · exact ⟨h a, h b⟩
    · exact twos_mem f P h l g hg
theorem brkA_size {who : List ByteArray} (h : ∀ s ∈ who, s.size ≤ 1000) : ∀ g ∈ brkA who, g.1.size ≤ 1000 ∧ g.2.size ≤ 1000 := by
  unfold brkA
  intro g hg
  split at hg
  · exact twos_mem (whoF who) (fun s => s.size ≤ 1000) (whoF_size h) _ g hg
  · cases hg
theorem brkE_two {who : List ByteArray} (h0 : brkE who = 0) : 2 ≤ who.length ∧ who.length ≤ 128 := by
  unfold brkE at h0
  by_cases h1 : 128 < who.length
  · rw [if_pos h1] at h0
    exact absurd h0 (by decide)
  · rw [if_neg h1] at h0
    by_cases h2 : who.length < 2
    · rw [if_pos h2] at h0
      exact absurd h0 (by decide)
    · omega

set_option maxRecDepth 100000 in
set_option maxHeartbeats 4000000 in
theorem brk_walk (a0 : Option Addr) (len0 cap0 : Nat) (z0 : List Int) (w : World) (w0 : InRow w a0 len0 cap0 z0) :
    Calls Try.prog 3 #[.slice a0 len0 cap0] w fun e w' => e = .returned (.bool true) ∧ Below w.heap.size w w' := by
  have hs0 := strm_start w0 25
  have hb0 : Bx w.heap.size w.heap.size w (w.alloc (.cells #[.slice a0 len0 cap0, .int .i64 0] 25)) := (Bx.refl _ _ _).alloc (Nat.le_refl _) _
  clear w0
  go_enter Try.func3, Try.ntmps3
  go_wp2_with fail
  refine (strong_calls w.heap.size 0 _ hs0 (by omega)).mono ?_
  rintro e w1 ⟨v, who, rfl, h17, hsz, hS⟩
  obtain ⟨n, hn⟩ : ∃ n, who.length = n := ⟨_, rfl⟩
  rw [hn] at hS
  have hr1 := Rd.own (show w1.ownsRow _ _ _ v n _ from hS.head) hS.hb
  obtain ⟨A, c, hv⟩ := own_form (show w1.ownsRow _ _ _ v n _ from hS.head)
  subst hv
  have hs1 := hS.strm
  have hlt1 := hS.lt
  have hb1 := hb0.call hS.bx (Nat.le_refl _)
  have HB1 := Lib.hid hb1
  have HN := Lib.hid hn
  obtain ⟨E, hE⟩ : ∃ E, brkE who = E := ⟨_, rfl⟩
  obtain ⟨L, hL⟩ : ∃ L, brkA who = L := ⟨_, rfl⟩
  have hBR := bracket_calls w.heap.size A n c who w1 hr1 hsz hlt1
  unfold BrkS at hBR
  rw [hE, hL] at hBR
  have HBF : Hid (∀ W, Below w1.heap.size w1 W → Calls Try.prog 7 #[.slice A n c] W (BRet (.int .i64 E) W)) := Lib.hid (fun W hW => by
    have := brkFault_calls w.heap.size A n c who W (hr1.below hW) hsz
    rw [hE] at this
    exact this)
  have HBO : Hid (E = 0 → ∀ W, Below w1.heap.size w1 W → Calls Try.prog 8 #[.slice A n c] W (fun e w' => ∃ v, e = .returned v ∧ w'.ownsRow W.heap.size 35 2 v L.length (L.flatMap gmC) ∧ Below W.heap.size W w')) := Lib.hid (fun h0 W hW => by
    obtain ⟨h2, h128⟩ := brkE_two (hE.trans h0)
    have := bracketOf_calls w.heap.size A n c who W (hr1.below hW) (by have := hW.size; omega) (by rw [← hn]; exact h2) (by rw [← hn]; exact h128)
    have e : brkL who = L := by rw [← hL]; unfold brkA; rw [if_pos (hE.trans h0)]
    rw [e] at this
    exact this)
  have HL0 : Hid (E ≠ 0 → L = []) := Lib.hid (fun h => by rw [← hL]; unfold brkA; rw [if_neg (by rw [hE]; exact h)])
  have HLL : Hid (L.length = 0 ∨ L.length = 1 ∨ L.length ∈ pw6) := Lib.hid (by rw [← hL]; exact brkA_len h17)
  have HLS : Hid (∀ g ∈ L, g.1.size ≤ 1000 ∧ g.2.size ≤ 1000) := Lib.hid (by rw [← hL]; exact brkA_size hsz)
  have HBR := Lib.hid hBR
  have hT1 := Sp.start hs1
  have HT1 := Lib.hid hT1
  clear hS hs0 hb0 hb1 hn hE hL hBR hsz h17 hr1 hs1 hT1
  go_wp2_with fail
  refine HBR.out.mono ?_
  rintro e w2 ⟨v2, rfl, ho2, hb2⟩
  have hx2 := Rd.own (b := w.heap.size) ho2 hlt1
  obtain ⟨A2, c2, hv⟩ := own_form ho2
  subst hv
  have HX2 := Lib.hid hx2
  have HB2 := Lib.hid hb2
  clear ho2 hx2 hb2 HBR
  go_wp2_with fail
  refine (HBF.out _ HB2.out).mono ?_
  rintro e w3 ⟨rfl, hb3⟩
  have HB3 := Lib.hid (below_call HB2.out hb3 (Nat.le_refl _))
  have HX3 := Lib.hid (HX2.out.below hb3)
  clear hb3 HBF HX2 HB2
  go_upto_if 30 with (fail)
  go_cut [8] (fun s8 W => ∃ A3 c3, s8 = .slice A3 L.length c3 ∧ Below w3.heap.size w3 W ∧ Sp w1 w.heap.size 3 W [rGm w1.heap.size A3 L.length c3 L])
  case first =>
    by_cases h0 : E = 0
    · subst h0
      go_wp2_with fail
      refine (HBO.out (by first | rfl | trivial) _ HB3.out).mono ?_
      rintro e w4 ⟨v4, rfl, ho4, hb4⟩
      obtain ⟨A3, c3, hv⟩ := own_form ho4
      subst hv
      have hT4 := (HT1.out.callB HB3.out).ownB hb4 ho4
      go_wp2_with fail
      go_meet
      exact ⟨A3, c3, rfl, hb4, hT4⟩
    · have hl0 := HL0.out h0
      subst hl0
      have hxb : (E == 0) = false := by simpa using h0
      go_wp2_with fail
      go_meet
      exact ⟨none, 0, rfl, Below.refl _ _, (HT1.out.callB HB3.out).nil w1.heap.size 35 2⟩
  case rest =>
    obtain ⟨A3, c3, rfl, hb4, hT4⟩ := hcut
    have ho4 : wc.ownsRow w1.heap.size 35 2 (.slice A3 L.length c3) L.length (L.flatMap gmC) := hT4.head
    have HEQ := Lib.hid (equalGm_calls w.heap.size A2 A3 L.length c2 c3 L wc (HX3.out.below hb4) (Rd.own ho4 hlt1))
    have HT4 := Lib.hid hT4
    obtain ⟨m, hm⟩ : ∃ m, L.length = m := ⟨_, rfl⟩
    rw [hm] at HEQ HT4 HLL ⊢
    have hm64 : m ≤ 64 := by
      rcases HLL.out with h | h | h
      · omega
      · omega
      · simp [pw6] at h
        omega
    have HM := Lib.hid hm
    clear hb4 hT4 ho4 HX3 HBO HL0 HT1 hm
    as_aux_lemma =>
      go_wp2_with fail
      refine HEQ.out.mono ?_
      rintro e w5 ⟨rfl, n5, rfl⟩
      have hT5 := (HT4.out.drewN n5).nil w1.heap.size 9 1
      clear HEQ HT4
      go_wp2_with fail
      go_loopw [9, 44] (fun v i W => ∃ (k : Nat) (ws : List ByteArray), k ≤ m ∧ i = .int .i64 k ∧ ws.length = k ∧ (∀ s ∈ ws, s.size ≤ 2000) ∧ Sp w1 w.heap.size (3 + 2 * k) W [rOwn w1.heap.size 9 1 v k (strsV ws), rGm w1.heap.size A3 m c3 L]) (fun _ i _ => m - (intOf i).toNat)
      case atStart => exact ⟨0, [], Nat.zero_le _, rfl, rfl, (by intro s hs; cases hs), hT5⟩
      case round =>
        clear hT5
        obtain ⟨k, ws, hk, rfl, hwl, hws, hT⟩ := hrel
        by_cases hlt : k < m
        · have hkl : k < L.length := by rw [HM.out]; exact hlt
          have hown : wr.ownsRow w1.heap.size 35 2 (.slice A3 m c3) m (L.flatMap gmC) := hT.nth 1 rfl
          obtain ⟨g3, cap3, hv3, _, _⟩ := hown.form (by omega)
          injection hv3 with hA3 _ hc3
          subst hA3 hc3
          have d0 := own_cell gmC 2 gmC_len hown k 0 hkl (by omega) (by omega)
          have d1 := own_cell gmC 2 gmC_len hown k 1 hkl (by omega) (by omega)
          have hz := HLS.out _ (List.getElem_mem hkl)
          obtain ⟨q, hq⟩ : ∃ q, L[k] = q := ⟨_, rfl⟩
          rw [hq] at d0 d1 hz
          obtain ⟨x, y⟩ := q
          replace d0 : wr.cell? ⟨g3, k * 2, none⟩ = some (.string x) := by simpa [gmC] using d0
          replace d1 : wr.cell? ⟨g3, k * 2 + 1, none⟩ = some (.string y) := by simpa [gmC] using d1
          obtain ⟨hxz, hyz⟩ := hz
          simp only at hxz hyz
          have hk0 : (0 : Int) ≤ (k : Int) := by omega
          have hk1 : (k : Int) < (m : Int) := by omega
          have hT2 := hT.add #[.string x, .string y] 35
          clear hq hown hT
          have hlm := hT2.strm.lt
          go_wp2_with fail
          refine (sp_next hT2 2 (by omega) (by omega) (by omega)).mono ?_
          rintro e w4 ⟨_, rfl, ⟨q, rfl, q0, q1⟩, hT3⟩
          obtain ⟨gx, hgx⟩ : ∃ gx, wr.heap.size = gx := ⟨_, rfl⟩
          rw [hgx] at hT3 ⊢
          have z0 : w4.cell? ⟨gx, 0, none⟩ = some (.string x) := (show Blk w4 gx 35 #[.string x, .string y] from hT3.nth 0 rfl).cell 0
          have z1 : w4.cell? ⟨gx, 1, none⟩ = some (.string y) := (show Blk w4 gx 35 #[.string x, .string y] from hT3.nth 0 rfl).cell 1
          obtain ⟨j, s, rfl, hj, zs, hsz⟩ : ∃ (j : Nat) (s : ByteArray), q = (j : Int) ∧ j < 2 ∧ w4.cell? ⟨gx, j, none⟩ = some (.string s) ∧ s.size ≤ 1000 := by
            rcases (show q = 0 ∨ q = 1 by omega) with rfl | rfl
            · exact ⟨0, x, rfl, by omega, z0, hxz⟩
            · exact ⟨1, y, rfl, by omega, z1, hyz⟩
          have hj0 : (0 : Int) ≤ (j : Int) := by omega
          have hj1 : (j : Int) < 2 := by omega
          clear hgx hT2 d0 d1 q0 q1 z0 z1
          go_upto_region 15 with (fail)
          go_cut [58] (fun s58 W => ∃ B : Bool, s58 = .bool B ∧ Sp w1 w.heap.size (3 + 2 * k + 2) W [rBlk gx 35 #[.string x, .string y], rOwn w1.heap.size 9 1 u9 k (strsV ws), rGm w1.heap.size (some ⟨g3, 0, none⟩) m c3 L])
          case first =>
            by_cases hs0 : s = ⟨#[]⟩
            · subst hs0
              go_wp2_with fail
              refine (sp_flip hT3 12 (by omega) (by omega) (by omega)).mono ?_
              rintro e w5 ⟨_, rfl, ⟨z, rfl⟩, hT4⟩
              go_wp2_with fail
              go_meet
              exact ⟨_, rfl, hT4⟩
            · have hsl := em_list hs0
              have hse : s.toList.isEmpty = false := by simpa using hsl
              go_wp2_with fail
              go_meet
              exact ⟨_, rfl, hT3.more (by omega)⟩
          case rest =>
            obtain ⟨B, rfl, hT4⟩ := hcut
            have z0 : wc.cell? ⟨gx, 0, none⟩ = some (.string x) := (show Blk wc gx 35 #[.string x, .string y] from hT4.nth 0 rfl).cell 0
            have z1 : wc.cell? ⟨gx, 1, none⟩ = some (.string y) := (show Blk wc gx 35 #[.string x, .string y] from hT4.nth 0 rfl).cell 1
            have hadd := run_cat x y ⟨by omega, by omega⟩ wc
            have hcs := catS_size x y
            obtain ⟨cs, hcc⟩ : ∃ z, catS x y = z := ⟨_, rfl⟩
            rw [hcc] at hadd hcs
            clear hT3 zs hcc
            go_upto_if 58 with (fail)
            obtain ⟨W, hW⟩ : ∃ W, wc = W := ⟨_, rfl⟩
            rw [hW] at hT4 z0 z1 hadd ⊢
            clear hW
            go_cut [12] (fun s12 V => ∃ s' : ByteArray, s12 = .string s' ∧ s'.size ≤ 2000 ∧ V = W)
            case first =>
              cases B
              · go_wp2_with fail
                go_meet
                exact ⟨s, rfl, by omega, rfl⟩
              · go_wp2_with fail
                go_meet
                exact ⟨cs, rfl, by omega, rfl⟩
            case rest =>
              obtain ⟨s', rfl, hsz', rfl⟩ := hcut
              clear z0 z1 hadd hcs
              have hT5 := hT4.drop 0 rfl rfl
              have hown : wc.ownsRow w1.heap.size 9 1 u9 k (strsV ws) := hT5.head
              have hsw := hT5.size
              obtain ⟨i0, hi0, hyy0, hyy1, hyy2⟩ := info_parts info_strB
              clear hT4
              go_wp2_with (first
                | (at_builtin; refine wpList_append_own_at _ rfl _ _ 26 rfl w1.heap.size 9 i0 (.string ⟨#[]⟩) 1 16 Try.underlying26 hi0 hyy0 hyy1 hyy2 rfl (by decide) _ _ _ rfl (hown.alloc _) ⟨wc.heap.size, 0, none⟩ 1 1 [.string s'] rfl rfl (World.news_of_block (heap_alloc_new _ _)) (one1B rfl) (by unfold maxLen; omega) (by omega) (by simp; omega) ?_; intro v' w8 hown' hgrow _ hblk; have hT8 := (hT5.alloc (.cells #[.string s'] 9)).append hown' hgrow hblk; clear hown' hgrow hblk))
              go_roundw
              case rel =>
                refine ⟨k + 1, ws ++ [s'], by omega, by go_num, by simp [hwl], ?_, ?_⟩
                · intro t ht
                  rcases List.mem_append.1 ht with h | h
                  · exact hws t h
                  · simp at h
                    subst h
                    exact hsz'
                · have he : strsV (ws ++ [s']) = strsV ws ++ [.string s'] := by simp [strsV]
                  rw [he, show 3 + 2 * (k + 1) = 3 + 2 * k + 2 by omega]
                  exact hT8
              case measure => simp [intOf]; omega
        · obtain rfl : k = m := by omega
          go_wp2_with fail
          refine (sp_flip hT 12 (by omega) (by omega) (by omega)).mono ?_
          rintro e w5 ⟨_, rfl, ⟨z, rfl⟩, hT2⟩
          clear hT
          go_upto_if 70 with (fail)
          go_cut [9] (fun s9 W => ∃ (ws' : List ByteArray) (A9 : Option Addr) (m9 c9 : Nat), s9 = .slice A9 m9 c9 ∧ ws'.length = m9 ∧ m9 ≤ 100 ∧ (∀ s ∈ ws', s.size ≤ 2000) ∧ Sp w1 w.heap.size 200 W [rOwn w1.heap.size 9 1 (.slice A9 m9 c9) m9 (strsV ws'), rGm w1.heap.size A3 k c3 L])
          case first =>
            cases z
            · go_wp2_with fail
              go_meet
              obtain ⟨A9, c9, hv⟩ := own_form (show w5.ownsRow w1.heap.size 9 1 u9 k (strsV ws) from hT2.head)
              subst hv
              exact ⟨ws, A9, k, c9, rfl, hwl, by omega, hws, hT2.more (by omega)⟩
            · go_wp2_with fail
              refine (sp_someL hT2 #[.string ⟨#[112, 97]⟩, .string ⟨#[122, 122]⟩] 9 2 (by decide) (by decide) rfl (strLit_ok rfl) (by omega)).mono ?_
              rintro e w6 ⟨_, rfl, ⟨str, rfl, hstr⟩, hT3⟩
              clear hT2
              have hown : w6.ownsRow w1.heap.size 9 1 u9 k (strsV ws) := hT3.head
              have hsw := hT3.size
              obtain ⟨i0, hi0, hyy0, hyy1, hyy2⟩ := info_parts info_strB
              go_wp2_with (first
                | (at_builtin; refine wpList_append_own_at _ rfl _ _ 26 rfl w1.heap.size 9 i0 (.string ⟨#[]⟩) 1 16 Try.underlying26 hi0 hyy0 hyy1 hyy2 rfl (by decide) _ _ _ rfl (hown.alloc _) ⟨w6.heap.size, 0, none⟩ 1 1 [.string str] rfl rfl (World.news_of_block (heap_alloc_new _ _)) (one1B rfl) (by unfold maxLen; omega) (by omega) (by simp; omega) ?_; intro v' w8 hown' hgrow _ hblk; have hT8 := (hT3.alloc (.cells #[.string str] 9)).append hown' hgrow hblk; clear hown' hgrow hblk))
              have he : strsV (ws ++ [str]) = strsV ws ++ [.string str] := by simp [strsV]
              rw [← he] at hT8
              obtain ⟨A9, c9, hv⟩ := own_form (show w8.ownsRow w1.heap.size 9 1 v' (k + 1) (strsV (ws ++ [str])) from hT8.head)
              subst hv
              go_meet
              exact ⟨ws ++ [str], A9, k + 1, c9, rfl, by simp [hwl], by omega, (by
                intro t ht
                rcases List.mem_append.1 ht with h | h
                · exact hws t h
                · simp at h
                  subst h
                  omega), hT8.more (by omega)⟩
          case rest =>
            obtain ⟨ws', A9, m9, c9, rfl, hwl9, hm9, hws9, hT3⟩ := hcut
            clear hT2 hws hwl
            as_aux_lemma =>
              go_upto_region 21 with (fail)
              go_cut [83] (fun s83 W => ∃ B : Bool, s83 = .bool B ∧ (B = true → 0 < k) ∧ Sp w1 w.heap.size 201 W [rOwn w1.heap.size 9 1 (.slice A9 m9 c9) m9 (strsV ws'), rGm w1.heap.size A3 k c3 L])
              case first =>
                by_cases h0 : k = 0
                · subst h0
                  go_wp2_with fail
                  go_meet
                  exact ⟨_, rfl, (fun h => by cases h), hT3.more (by omega)⟩
                · have hkp : (0 : Int) < (k : Int) := by omega
                  go_wp2_with fail
                  refine (sp_flip hT3 12 (by omega) (by omega) (by omega)).mono ?_
                  rintro e w6 ⟨_, rfl, ⟨z2, rfl⟩, hT4⟩
                  go_wp2_with fail
                  go_meet
                  exact ⟨_, rfl, (fun _ => by omega), hT4⟩
              case rest =>
                obtain ⟨B, rfl, hBk, hT4⟩ := hcut
                clear hT3
                go_upto_if 83 with (fail)
                go_cut [] (fun W => ∃ L' : List Gm, L'.length = k ∧ (∀ g ∈ L', g.1.size ≤ 1000 ∧ g.2.size ≤ 1000) ∧ Sp w1 w.heap.size 300 W [rOwn w1.heap.size 9 1 (.slice A9 m9 c9) m9 (strsV ws'), rGm w1.heap.size A3 k c3 L'])
                case first =>
                  cases B
                  · go_wp2_with fail
                    go_meet
                    exact ⟨L, HM.out, HLS.out, hT4.more (by omega)⟩
                  · have hkp := hBk rfl
                    have hkp1 : (1 : Int) ≤ (k : Int) := by omega
                    go_wp2_with fail
                    refine (sp_next hT4 (k : Int) (by omega) (by omega) (by omega)).mono ?_
                    rintro e w6 ⟨_, rfl, ⟨q, rfl, q0, q1⟩, hT5⟩
                    obtain ⟨j, rfl⟩ : ∃ j : Nat, q = (j : Int) := ⟨q.toNat, by omega⟩
                    clear hT4
                    go_wp2_with fail
                    refine (sp_someL hT5 #[.string ⟨#[]⟩, .string ⟨#[112, 97]⟩, .string ⟨#[65]⟩] 9 3 (by decide) (by decide) rfl (strLit_ok rfl) (by omega)).mono ?_
                    rintro e w7 ⟨_, rfl, ⟨t0, rfl, ht0⟩, hT6⟩
                    clear hT5
                    go_wp2_with fail
                    refine (sp_someL hT6 #[.string ⟨#[]⟩, .string ⟨#[112, 122]⟩] 9 2 (by decide) (by decide) rfl (strLit_ok rfl) (by omega)).mono ?_
                    rintro e w8 ⟨_, rfl, ⟨t1, rfl, ht1⟩, hT7⟩
                    clear hT6
                    have hT8 := hT7.front 1 rfl rfl
                    have hown : w8.ownsRow w1.heap.size 35 2 (.slice A3 k c3) k (L.flatMap gmC) := hT8.head
                    obtain ⟨g3, cap3, hv3, _, _⟩ := hown.form (by omega)
                    injection hv3 with hA3 _ hc3
                    subst hA3 hc3
                    have hjl : j < L.length := by rw [HM.out]; omega
                    have e0 := own_cell gmC 2 gmC_len hown j 0 hjl (by omega) (by omega)
                    have e1 := own_cell gmC 2 gmC_len hown j 1 hjl (by omega) (by omega)
                    replace e0 : w8.cell? ⟨g3, j * 2, none⟩ = some (.string L[j].1) := by simpa [gmC] using e0
                    replace e1 : w8.cell? ⟨g3, j * 2 + 1, none⟩ = some (.string L[j].2) := by simpa [gmC] using e1
                    have f0 := hown.frozenAt (j * 2)
                    have f1 := hown.frozenAt (j * 2 + 1)
                    have hj0 : (0 : Int) ≤ (j : Int) := by omega
                    have hj1 : (j : Int) < (k : Int) := by omega
                    have hml := HM.out
                    have hT8' : Sp w1 w.heap.size (201 + 1 + 1 + 1) w8 (rOwn w1.heap.size 35 2 (.slice (some ⟨g3, 0, none⟩) L.length c3) L.length (L.flatMap gmC) :: [rOwn w1.heap.size 9 1 (.slice A9 m9 c9) m9 (strsV ws')]) := by rw [hml]; exact hT8
                    have hF1 := hT8'.field gmC 2 gmC_len j 0 hjl (by omega) (.string t0) (t0, L[j].2) rfl
                    have hF2 := hF1.field gmC 2 gmC_len j 1 (by rw [List.length_set]; exact hjl) (by omega) (.string t1) (t0, t1) (by rw [List.getElem_set_self]; rfl)
                    rw [List.set_set] at hF2
                    have hF3 := hF2.front 1 rfl rfl
                    have hlen : (L.set j (t0, t1)).length = k := by rw [List.length_set, hml]
                    rw [hlen] at hF3
                    have HF3 := Lib.hid hF3
                    clear hF1 hF2 hF3 hT8 hT8' hT7 hown hml
                    go_wp2_with fail
                    go_meet
                    refine ⟨L.set j (t0, t1), hlen, ?_, HF3.out.more (by omega)⟩
                    intro g hg
                    rcases List.mem_or_eq_of_mem_set hg with h | h
                    · exact HLS.out g h
                    · subst h
                      exact ⟨ht0, ht1⟩
                case rest =>
                  obtain ⟨L', hL', hLs', hT5⟩ := hcut
                  clear hT4 hBk
                  as_aux_lemma =>
                    have hg5 : wc.ownsRow w1.heap.size 35 2 (.slice A3 k c3) k (L'.flatMap gmC) := hT5.nth 1 rfl
                    have hw5 : wc.ownsRow w1.heap.size 9 1 (.slice A9 m9 c9) m9 (strsV ws') := hT5.head
                    have hlt5 := hT5.lt
                    have hrg := Rd.own (b := w.heap.size) hg5 hlt1
                    have hrw := Rd.own (b := w.heap.size) hw5 hlt1
                    have hloo : ∀ g o, A9 = some ⟨g, o, none⟩ → g < wc.heap.size := by
                      intro g o hA
                      subst hA
                      exact (hw5.lt g rfl).2
                    have HA1 := Lib.hid (advance_calls w.heap.size A3 A9 k c3 m9 c9 L' ws' wc hrg hrw (fun g hg => ⟨by have := (hLs' g hg).1; omega, by have := (hLs' g hg).2; omega⟩) HLL.out hlt5 hloo)
                    have HA2 : Hid (∀ W, Below wc.heap.size wc W → Calls Try.prog 14 #[.slice A3 k c3, .slice A9 m9 c9] W (AdvS L' ws' W)) := Lib.hid (fun W hW => advanceQ_calls w.heap.size A3 A9 k c3 m9 c9 L' ws' W (hrg.below hW) (hrw.below hW) (fun g hg => ⟨by have := (hLs' g hg).1; omega, by have := (hLs' g hg).2; omega⟩) (by have := hW.size; omega))
                    obtain ⟨E5, hE5⟩ : ∃ E, advE L' ws' = E := ⟨_, rfl⟩
                    obtain ⟨L5, hL5⟩ : ∃ L, advA L' ws' = L := ⟨_, rfl⟩
                    unfold AdvS at HA1 HA2
                    rw [hE5, hL5] at HA1 HA2
                    have HB5 := Lib.hid ((HB1.out.call hT5.bx (Nat.le_refl _)).below (Nat.le_refl _))
                    clear hT5 hg5 hw5 hrg hrw hloo hE5 hL5 hLs'
                    go_wp2_with fail
                    refine HA1.out.mono ?_
                    rintro e w6 ⟨v6, rfl, ho6, hb6⟩
                    have HX6 := Lib.hid (Rd.own (b := w.heap.size) ho6 hlt5)
                    obtain ⟨A6, c6, hv⟩ := own_form ho6
                    subst hv
                    clear ho6
                    go_wp2_with fail
                    refine (HA2.out _ hb6).mono ?_
                    rintro e w7 ⟨v7, rfl, ho7, hb7⟩
                    obtain ⟨A7, c7, hv⟩ := own_form ho7
                    subst hv
                    have HEQ := Lib.hid (equalGm_calls w.heap.size A6 A7 L5.length c6 c7 L5 w7 (HX6.out.below hb7) (Rd.own ho7 (by have := hb6.size; omega)))
                    have hb8 := below_call HB5.out (below_call hb6 hb7 (Nat.le_refl _)) (Nat.le_refl _)
                    clear ho7 hb6 hb7
                    go_wp2_with fail
                    refine HEQ.out.mono ?_
                    rintro e w8 ⟨rfl, n8, rfl⟩
                    have hb9 := below_drewN hb8 n8
                    go_wp2_with fail
                    refine (raced_calls _).mono ?_
                    rintro e w9 ⟨rfl, hb10⟩
                    go_wp2_with fail
                    go_ret
                    exact ⟨rfl, below_call hb9 hb10 (Nat.le_refl _)⟩
end Go.Proofs.Ytejadhehmcifoaa
