/-
  The parser of rules, on: many by a contract, at each of its two parts. (Printed by gen_rule4.py.)
-/
import Derived.Test.YtipbhgefcmekpaaGreatDoorZRule1
import Derived.Test.YtipbhgefcmekpaaGreatDoorZRatMake
import Derived.Deep.DeepCutAuto
import Derived.Deep.RegionLaw
import Derived.Deep.CutBlock
import Derived.Test.YtipbhgefcmekpaaGreatDoorZSlot4
import Derived.Test.YtipbhgefcmekpaaGreatDoorZSjoin
namespace Go.Proofs.YtipbhgefcmekpaaGreatDoor
open Go Go.RowKit

theorem info_ptr : (Tryz.prog.info? 75).map (fun i => (i.zero, i.size, i.bytes)) = some (some (.pointer none), 1, 8) := by kernel_rfl
theorem joinF_one (kind : Int) (k : Nd) : joinF kind [k] = k := rfl
theorem joinF_many (kind : Int) (ks : List Nd) (h : ks.length ≠ 1) : joinF kind ks = .node kind ks atm0 := by
  match ks, h with
  | [], _ => rfl
  | [_], h => exact absurd rfl h
  | _ :: _ :: _, _ => rfl
theorem Px.node_at {w W : World} {b : Nat} {l : List Rsc} {xs : List Nl} (h : Px w b W l) (i : Nat) (hi : l[i]? = some (rAll rNode xs)) (x : Nl) (hx : x ∈ xs) : NodeAt W w.heap.size W.heap.size x.g x.t := by
  have h1 : NodeAt W x.lo x.hi x.g x.t := (h.nth i hi : ∀ a ∈ xs, (rNode a).P W) x hx
  have h2 := h1.lt
  have h3 := h.ge i hi (g := x.lo) ⟨x, hx, Nat.le_refl _, by omega⟩
  have h4 := h.ge i hi (g := x.hi - 1) ⟨x, hx, by omega, by omega⟩
  exact h1.wide h3.1 (by omega)
theorem loop_stop (s word : ByteArray) (part : PSt → Nd × PSt) (m : Nat) (ks : List Nd) (t : PSt) (h : ¬ (t.bad = false ∧ t.tok = word)) : loopF s word part m ks t = (ks, t) := by
  cases m with
  | zero => rfl
  | succ m => rw [loopF, if_neg h]
theorem loop_step (s word : ByteArray) (part : PSt → Nd × PSt) (m : Nat) (ks : List Nd) (t : PSt) (h : t.bad = false ∧ t.tok = word) : loopF s word part (m + 1) ks t = loopF s word part m (ks ++ [(part (nextF s t)).1]) (part (nextF s t)).2 := by
  rw [loopF, if_pos h]
theorem PAt.keep {W W' : World} {b : Nat} {s : ByteArray} {t : PSt} (h : PAt W b s t) (k : W'.heap[b]? = W.heap[b]?) : PAt W' b s t := k.trans h
theorem Px.keepB {w W W' : World} {b base : Nat} {e : TypeId} {size n : Nat} {v : Value} {xs : List Value} {l : List Rsc} (h : Px w b W (rOwn base e size v n xs :: l)) (hg : W.grownBy W' v.ownBlock) : W'.heap[b]? = W.heap[b]? :=
  hg.block b h.lt (fun e => by have h1 := (h.ge 0 rfl (g := b) e.symm).1; have := h.hb; omega)
theorem Px.nodeC_cells {w W : World} {b gn : Nat} {l : List Rsc} {kind : Int} {v : Value} (h : Px w b W l) (i : Nat) (hi : l[i]? = some (rBlk gn 106 #[.int .i64 kind, v, .string ⟨#[]⟩, .string ⟨#[]⟩, .string ⟨#[]⟩, .int .i64 0])) : W.cell? ⟨gn, 1, none⟩ = some v ∧ W.frozen? ⟨gn, 1, none⟩ = false :=
  ⟨Blk.cell (h.nth i hi) 1, Blk.frozen (h.nth i hi) 1⟩
theorem one1p (g : Nat) : ∀ u ∈ [ptrV g], u.oneCell' = true := by
  intro u hu
  simp at hu
  subst hu
  rfl
def gsV (xs : List Nl) : List Value := xs.map fun x => ptrV x.g

set_option maxRecDepth 100000 in
set_option maxHeartbeats 2000000 in
theorem many1_calls (part : PSt → Nd × PSt) (gp gd : Nat) (b : Nat) (s : ByteArray) (t : PSt) (kind : Int) (word : ByteArray) (lo : Nat) (w : World) (h : PAt w b s t) (hok : POk s t) (hs : s.size ≤ 100000) (hbad : t.bad = false) (hlo : lo ≤ t.at_) (hw : 1 ≤ word.size)
    (HP : ∀ W t, Bx w.heap.size b w W → PAt W b s t → POk s t → t.bad = false → lo ≤ t.at_ → Calls Tryz.prog 90 #[.pointer (some ⟨gp, 0, none⟩), .pointer (some ⟨gd, 0, none⟩)] W (NodS b s (part t) t.at_ W)) :
    Calls Tryz.prog 89 #[.pointer (some ⟨b, 0, none⟩), .int .i64 kind, .string word, .func (.func 90) #[] #[.pointer (some ⟨gp, 0, none⟩), .pointer (some ⟨gd, 0, none⟩)]] w (NodS b s (manyF s kind word part t) t.at_ w) := by
  obtain ⟨i0, hi, hz0, hz1, hz2⟩ := info_parts info_ptr
  have hb := h.lt
  have hS0 := (Px.start w hb).allNil rNode rNode_ok
  obtain ⟨nd1, hnd1⟩ : ∃ nd1, (part t).1 = nd1 := ⟨_, rfl⟩
  obtain ⟨t1, ht1⟩ : ∃ t1, (part t).2 = t1 := ⟨_, rfl⟩
  obtain ⟨R, hR⟩ : ∃ R, loopF s word part (s.size + 1) [nd1] t1 = R := ⟨_, rfl⟩
  have HM : Hid (manyF s kind word part t = (joinF kind R.1, R.2)) := by unfold manyF; rw [hnd1, ht1, hR]; exact Lib.hid rfl
  have HP0 := Lib.hid (HP w t (Bx.refl _ _ _) h hok hbad hlo)
  have HPP := Lib.hid HP
  have HRR := Lib.hid hR
  have HN1 := Lib.hid hnd1
  have HT1 := Lib.hid ht1
  rw [HM.out]
  clear HP hR hnd1 ht1 hbad
  go_enter Tryz.func89, Tryz.ntmps89
  go_wp2_with fail
  refine HP0.out.mono ?_
  rintro e w2 ⟨g1, rfl, N1, P2, B2, ok2, le2⟩
  rw [HN1.out] at N1
  rw [HT1.out] at P2 ok2 le2
  have hS2 := (hS0.node B2 N1).snoc rNode_ok
  have hS3 := hS2.addRow #[ptrV g1] 75 1 1 rfl (by decide)
  have hS4 := hS3.add #[.int .i64 kind, .slice (some ⟨w2.heap.size, 0, none⟩) 1 1, .string ⟨#[]⟩, .string ⟨#[]⟩, .string ⟨#[]⟩, .int .i64 0] 106
  have P3 := (P2.below ((Below.refl _ _).alloc (Nat.le_refl _) (.cells #[ptrV g1] 75)))
  have P4 := P3.below ((Below.refl _ _).alloc (Nat.le_refl _) (.cells #[.int .i64 kind, .slice (some ⟨w2.heap.size, 0, none⟩) 1 1, .string ⟨#[]⟩, .string ⟨#[]⟩, .string ⟨#[]⟩, .int .i64 0] 106))
  obtain ⟨gn, hgn⟩ : ∃ gn, w2.heap.size + 1 = gn := ⟨_, rfl⟩
  have hgs : (w2.alloc (.cells #[ptrV g1] 75)).heap.size = gn := by simp [← hgn]
  rw [hgs] at hS4
  have hgw : w.heap.size ≤ gn := by have := hS2.size; omega
  clear hS0 hS2 hS3 P3 P2 B2 N1 HP0
  have hS5 : Px w b _ [rBlk gn 106 #[.int .i64 kind, .slice (some ⟨w2.heap.size, 0, none⟩) 1 1, .string ⟨#[]⟩, .string ⟨#[]⟩, .string ⟨#[]⟩, .int .i64 0], rOwn w.heap.size 75 1 (.slice (some ⟨w2.heap.size, 0, none⟩) 1 1) 1 (gsV [⟨w.heap.size, w2.heap.size, g1, nd1⟩]), rAll rNode [⟨w.heap.size, w2.heap.size, g1, nd1⟩]] := hS4
  clear hS4
  go_upto_block 0 with (fail)
  go_cut [] (fun W => ∃ (xs : List Nl) (A : Option Addr) (c : Nat) (t' : PSt), (xs.map (fun x => x.t), t') = R ∧ POk s t' ∧ t.at_ ≤ t'.at_ ∧ PAt W b s t' ∧ 1 ≤ xs.length ∧ xs.length ≤ s.size + 1 ∧ Px w b W [rBlk gn 106 #[.int .i64 kind, .slice A xs.length c, .string ⟨#[]⟩, .string ⟨#[]⟩, .string ⟨#[]⟩, .int .i64 0], rOwn w.heap.size 75 1 (.slice A xs.length c) xs.length (gsV xs), rAll rNode xs])
  case first =>
    go_wp2_with fail
    go_loopw [] (fun wr => ∃ (xs : List Nl) (A : Option Addr) (c : Nat) (t' : PSt) (m : Nat), Hid (loopF s word part m (xs.map (fun x => x.t)) t' = R) ∧ s.size - t'.at_ < m ∧ POk s t' ∧ t.at_ ≤ t'.at_ ∧ PAt wr b s t' ∧ 1 ≤ xs.length ∧ xs.length ≤ t'.at_ + 1 ∧ Px w b wr [rBlk gn 106 #[.int .i64 kind, .slice A xs.length c, .string ⟨#[]⟩, .string ⟨#[]⟩, .string ⟨#[]⟩, .int .i64 0], rOwn w.heap.size 75 1 (.slice A xs.length c) xs.length (gsV xs), rAll rNode xs]) (fun wr => s.size + 1 - atCell wr b)
    case atStart => exact ⟨[⟨w.heap.size, w2.heap.size, g1, nd1⟩], _, _, t1, s.size + 1, HRR, by omega, ok2, le2, P4, Nat.le_refl _, by simp, hS5⟩
    case round =>
      clear hS5 P4 ok2 le2
      obtain ⟨xs, A, c, t', m, HL, hm, ok3, le3, P, hx1, hx2, hS⟩ := hrel
      obtain ⟨n, hn⟩ : ∃ n, xs.length = n := ⟨_, rfl⟩
      rw [hn] at hS hx1 hx2
      have HN := Lib.hid hn
      obtain ⟨c0, c1, c2, c3, c4, f1, f2, f3, f4⟩ := P.cells
      obtain ⟨bd, hbd⟩ : ∃ bd, t'.bad = bd := ⟨_, rfl⟩
      obtain ⟨T, hT⟩ : ∃ T, t'.tok = T := ⟨_, rfl⟩
      rw [hbd] at c4
      rw [hT] at c2
      have ha3 := ok3.at_
      rw [hT] at ha3
      have HPa := Lib.hid P.at_cell
      cases bd
      · by_cases hTw : T = word
        · have e1 : (T.toList == word.toList) = true := (tokB T _ word (Lib.toList_data word).symm).trans (decide_eq_true hTw)
          obtain ⟨t2, ht2⟩ : ∃ t2, nextF s t' = t2 := ⟨_, rfl⟩
          have htk : takeF s t' true = t2 := by unfold takeF; rw [hbd]; simpa using ht2
          have ok4 : POk s t2 := by rw [← ht2]; exact ok3.next
          have bad4 : t2.bad = false := by rw [← ht2]; exact hbd
          have ge4 : t'.at_ + T.size ≤ t2.at_ := by rw [← ht2, ← hT]; exact next_ge
          have hTs : 1 ≤ T.size := by rw [hTw]; exact hw
          obtain ⟨m', rfl⟩ : ∃ m', m = m' + 1 := ⟨m - 1, by omega⟩
          obtain ⟨nd, hnd⟩ : ∃ nd, (part t2).1 = nd := ⟨_, rfl⟩
          obtain ⟨t3, ht3⟩ : ∃ t3, (part t2).2 = t3 := ⟨_, rfl⟩
          have HLS : Hid (loopF s word part m' (xs.map (fun x => x.t) ++ [nd]) t3 = R) := by
            rw [← hnd, ← ht3, ← ht2, ← loop_step s word part m' _ t' ⟨hbd, hT.trans hTw⟩]
            exact HL
          have HTK := Lib.hid (take_calls_ b s t' true wr P ok3 hs)
          rw [htk] at HTK
          have HND := Lib.hid hnd
          have HT3 := Lib.hid ht3
          have HBA := Lib.hid bad4
          clear hbd hT hTw ht2 htk hnd ht3 bad4 hn HL
          go_wp2_with fail
          refine HTK.out.mono ?_
          rintro e w3 ⟨rfl, P3, B3⟩
          have hS3 := hS.call B3
          obtain ⟨k1, k2⟩ := hS3.nodeC_cells 0 rfl
          have HC1 : Hid (Calls Tryz.prog 90 #[.pointer (some ⟨gp, 0, none⟩), .pointer (some ⟨gd, 0, none⟩)] w3.drew (fun e w4 => ∃ x4 : Nl, e = .returned (ptrV x4.g) ∧ x4.t = nd ∧ w.heap.size ≤ w4.heap.size ∧ PAt w4 b s t3 ∧ POk s t3 ∧ t2.at_ ≤ t3.at_ ∧ Px w b w4 [rOwn w.heap.size 75 1 (.slice A n c) n (gsV xs), rAll rNode (xs ++ [x4]), rBlk gn 106 #[.int .i64 kind, .slice A n c, .string ⟨#[]⟩, .string ⟨#[]⟩, .string ⟨#[]⟩, .int .i64 0]])) := by
            refine (HPP.out w3.drew t2 hS3.drew.bx P3 ok4 HBA.out (by omega)).mono ?_
            rintro e w4 ⟨g4, rfl, N4, P4, B4, ok5, le5⟩
            rw [HND.out] at N4
            rw [HT3.out] at P4 ok5 le5
            have hS4 := ((((hS3.drew.node B4 N4).front 3 rfl rfl).front 1 rfl rfl).snoc rNode_ok).front 2 rfl rfl
            exact ⟨_, rfl, rfl, hS4.size, P4, ok5, le5, hS4⟩
          have HG : Hid (∀ W l (i : Nat), Px w b W l → l[i]? = some (rBlk gn 106 #[.int .i64 kind, .slice A n c, .string ⟨#[]⟩, .string ⟨#[]⟩, .string ⟨#[]⟩, .int .i64 0]) → W.cell? ⟨gn, 1, none⟩ = some (.slice A n c) ∧ W.frozen? ⟨gn, 1, none⟩ = false) := fun W l i h hl => h.nodeC_cells i hl
          have HLT : Hid (∀ W l (i : Nat), Px w b W l → l[i]? = some (rBlk gn 106 #[.int .i64 kind, .slice A n c, .string ⟨#[]⟩, .string ⟨#[]⟩, .string ⟨#[]⟩, .int .i64 0]) → gn < W.heap.size) := fun W l i h hl => (h.ge i hl (g := gn) rfl).2
          have h63 : n + 1 ≤ maxLen := by unfold maxLen; omega
          have hby : (n + 1) * 8 ≤ 140737488355328 := by omega
          clear hS c0 c1 c2 c3 c4 f1 f2 f3 f4 e1 HTK
          go_wp2_with fail
          go_region_law (first
            | (go_simp; go_at_call 90; ((with_reducible refine HC1.out.mono ?_); rintro e w4 ⟨x4, rfl, hx4, hsz4, P4, ok5, le5, hS5⟩; obtain ⟨k1, k2⟩ := HG.out _ _ 2 hS5 rfl; have hlt4 := (HLT.out _ _ 2 hS5 rfl)))
            | (refine step_append_lies _ (by rfl) _ _ _ (by rfl) w.heap.size 75 i0 (.pointer none) 1 8 Tryz.underlying102 hi hz0 hz1 hz2 rfl (by omega) (.slice A n c) n (gsV xs) (by rfl) ((hS5.alloc _).head) ⟨w4.heap.size, 0, none⟩ 1 1 [ptrV x4.g] (by rfl) (by rfl) (news_new _ _ _ _ rfl) (one1p _) (by omega) h63 hby (base1 hsz4 _) _ rfl ?_; intro g2 cap2 w5 hown' hgrow hblk hlt5; have hV := (hS5.alloc _).append hown' hgrow (own_lies hblk); have P5 := (P4.below ((Below.refl _ _).alloc (Nat.le_refl _) _)).keep ((hS5.alloc _).keepB hgrow); obtain ⟨k1, k2⟩ := HG.out _ _ 2 hV rfl; clear hown' hgrow hblk))
          all_goals
            have hV2 := (hV.front 2 rfl rfl).set_ 1 (.slice (some ⟨g2, 0, none⟩) (n + 1) cap2)
            have hbn : b ≠ gn := by have := hS3.hb; omega
            have P6 := P5.far hbn 1 (.slice (some ⟨g2, 0, none⟩) (n + 1) cap2)
            have HA6 := Lib.hid P6.at_cell
            have hln : (xs ++ [x4]).length = n + 1 := by rw [List.length_append, HN.out]; rfl
            go_wp2_with fail
            go_roundw
            case rel =>
              refine ⟨xs ++ [x4], some ⟨g2, 0, none⟩, cap2, t3, m', ?_, by omega, ok5, by omega, P6, by omega, by omega, ?_⟩
              · rw [List.map_append, List.map_singleton, hx4]; exact HLS
              · rw [hln]
                have hg : gsV (xs ++ [x4]) = gsV xs ++ [ptrV x4.g] := by unfold gsV; rw [List.map_append]; rfl
                rw [hg]
                exact hV2
            case measure =>
              have h1 := HA6.out
              have h2 := HPa.out
              have h3 := ok5.at_
              rw [h1, h2]
              omega
        · have e1 : (T.toList == word.toList) = false := (tokB T _ word (Lib.toList_data word).symm).trans (decide_eq_false hTw)
          have HE : Hid ((xs.map (fun x => x.t), t') = R) := by rw [← HL.out, loop_stop _ _ _ _ _ _ (fun h => hTw (hT.symm.trans h.2))]; exact Lib.hid rfl
          clear hbd hT hTw hn
          go_wp2_with fail
          go_meet
          exact ⟨xs, A, c, t', HE, ok3, le3, P, by rw [HN.out]; exact hx1, by rw [HN.out]; omega, by rw [HN.out]; exact hS⟩
      · have HE : Hid ((xs.map (fun x => x.t), t') = R) := by rw [← HL.out, loop_stop _ _ _ _ _ _ (fun h => by rw [hbd] at h; exact absurd h.1 (by decide))]; exact Lib.hid rfl
        clear hbd hT hn
        go_wp2_with fail
        go_meet
        exact ⟨xs, A, c, t', HE, ok3, le3, P, by rw [HN.out]; exact hx1, by rw [HN.out]; omega, by rw [HN.out]; exact hS⟩
  case rest =>
    obtain ⟨xs, A, c, t', hRx, ok3, le3, P, hx1, hx2, hS⟩ := hcut
    clear P4 hS5
    have HRX := Lib.hid hRx
    clear hRx
    obtain ⟨n, hn⟩ : ∃ n, xs.length = n := ⟨_, rfl⟩
    rw [hn] at hS hx1 hx2
    have HN := Lib.hid hn
    obtain ⟨k1, k2⟩ := hS.nodeC_cells 0 rfl
    have hrow : wc.ownsRow w.heap.size 75 1 (.slice A n c) n (gsV xs) := hS.nth 1 rfl
    clear hn
    by_cases h1 : n = 1
    · subst h1
      obtain ⟨gi, ci, hv, _⟩ := hrow.form (by omega)
      injection hv with hAI _ hcI
      subst hAI hcI
      have hlx : 0 < xs.length := by rw [HN.out]; omega
      have kc : wc.cell? ⟨gi, 0, none⟩ = some (ptrV xs[0].g) := by rw [hrow.cellAt 0 (by omega)]; unfold gsV; rw [List.getElem?_map, List.getElem?_eq_getElem hlx]; rfl
      have hnode := hS.node_at 2 rfl xs[0] (List.getElem_mem hlx)
      have HF : Hid (joinF kind R.1 = xs[0].t ∧ R.2 = t') := by
        rw [← HRX.out]
        obtain ⟨x0, hx0⟩ : ∃ x0, xs = [x0] := List.length_eq_one_iff.1 HN.out
        subst hx0
        exact Lib.hid ⟨rfl, rfl⟩
      go_wp2_with fail
      go_ret
      exact ⟨xs[0].g, rfl, by rw [HF.out.1]; exact hnode, by rw [HF.out.2]; exact P, hS.bx, by rw [HF.out.2]; exact ok3, by rw [HF.out.2]; exact le3⟩
    · have hne : ((n : Int) == 1) = false := by simp; omega
      have HF : Hid (joinF kind R.1 = .node kind (xs.map (fun x => x.t)) atm0 ∧ R.2 = t') := by
        rw [← HRX.out]
        exact Lib.hid ⟨joinF_many _ _ (by rw [List.length_map, HN.out]; exact h1), rfl⟩
      have hnode : NodeAt wc w.heap.size wc.heap.size gn (.node kind (xs.map (fun x => x.t)) atm0) := by
        have hgn2 := hS.ge 0 rfl (g := gn) rfl
        refine .mk gn kind atm0 (.slice A n c) (xs.map (fun x => x.g)) _ hgn2 (hS.nth 0 rfl) ?_ (fun k e => (hS.ge 1 rfl (g := k) e).2) (by simp) (fun i hi_ hk => ?_)
        · rw [List.length_map, HN.out, List.map_map]
          exact hrow
        · have hix : i < xs.length := by simpa using hk
          have := hS.node_at 2 rfl xs[i] (List.getElem_mem hix)
          simpa using this
      go_wp2_with fail
      go_ret
      exact ⟨gn, rfl, by rw [HF.out.1]; exact hnode, by rw [HF.out.2]; exact P, hS.bx, by rw [HF.out.2]; exact ok3, by rw [HF.out.2]; exact le3⟩

set_option maxRecDepth 100000 in
set_option maxHeartbeats 2000000 in
theorem many2_calls (part : PSt → Nd × PSt) (gp gd : Nat) (b : Nat) (s : ByteArray) (t : PSt) (kind : Int) (word : ByteArray) (lo : Nat) (w : World) (h : PAt w b s t) (hok : POk s t) (hs : s.size ≤ 100000) (hbad : t.bad = false) (hlo : lo ≤ t.at_) (hw : 1 ≤ word.size)
    (HP : ∀ W t, Bx w.heap.size b w W → PAt W b s t → POk s t → t.bad = false → lo ≤ t.at_ → Calls Tryz.prog 91 #[.pointer (some ⟨gp, 0, none⟩), .pointer (some ⟨gd, 0, none⟩)] W (NodS b s (part t) t.at_ W)) :
    Calls Tryz.prog 89 #[.pointer (some ⟨b, 0, none⟩), .int .i64 kind, .string word, .func (.func 91) #[] #[.pointer (some ⟨gp, 0, none⟩), .pointer (some ⟨gd, 0, none⟩)]] w (NodS b s (manyF s kind word part t) t.at_ w) := by
  obtain ⟨i0, hi, hz0, hz1, hz2⟩ := info_parts info_ptr
  have hb := h.lt
  have hS0 := (Px.start w hb).allNil rNode rNode_ok
  obtain ⟨nd1, hnd1⟩ : ∃ nd1, (part t).1 = nd1 := ⟨_, rfl⟩
  obtain ⟨t1, ht1⟩ : ∃ t1, (part t).2 = t1 := ⟨_, rfl⟩
  obtain ⟨R, hR⟩ : ∃ R, loopF s word part (s.size + 1) [nd1] t1 = R := ⟨_, rfl⟩
  have HM : Hid (manyF s kind word part t = (joinF kind R.1, R.2)) := by unfold manyF; rw [hnd1, ht1, hR]; exact Lib.hid rfl
  have HP0 := Lib.hid (HP w t (Bx.refl _ _ _) h hok hbad hlo)
  have HPP := Lib.hid HP
  have HRR := Lib.hid hR
  have HN1 := Lib.hid hnd1
  have HT1 := Lib.hid ht1
  rw [HM.out]
  clear HP hR hnd1 ht1 hbad
  go_enter Tryz.func89, Tryz.ntmps89
  go_wp2_with fail
  refine HP0.out.mono ?_
  rintro e w2 ⟨g1, rfl, N1, P2, B2, ok2, le2⟩
  rw [HN1.out] at N1
  rw [HT1.out] at P2 ok2 le2
  have hS2 := (hS0.node B2 N1).snoc rNode_ok
  have hS3 := hS2.addRow #[ptrV g1] 75 1 1 rfl (by decide)
  have hS4 := hS3.add #[.int .i64 kind, .slice (some ⟨w2.heap.size, 0, none⟩) 1 1, .string ⟨#[]⟩, .string ⟨#[]⟩, .string ⟨#[]⟩, .int .i64 0] 106
  have P3 := (P2.below ((Below.refl _ _).alloc (Nat.le_refl _) (.cells #[ptrV g1] 75)))
  have P4 := P3.below ((Below.refl _ _).alloc (Nat.le_refl _) (.cells #[.int .i64 kind, .slice (some ⟨w2.heap.size, 0, none⟩) 1 1, .string ⟨#[]⟩, .string ⟨#[]⟩, .string ⟨#[]⟩, .int .i64 0] 106))
  obtain ⟨gn, hgn⟩ : ∃ gn, w2.heap.size + 1 = gn := ⟨_, rfl⟩
  have hgs : (w2.alloc (.cells #[ptrV g1] 75)).heap.size = gn := by simp [← hgn]
  rw [hgs] at hS4
  have hgw : w.heap.size ≤ gn := by have := hS2.size; omega
  clear hS0 hS2 hS3 P3 P2 B2 N1 HP0
  have hS5 : Px w b _ [rBlk gn 106 #[.int .i64 kind, .slice (some ⟨w2.heap.size, 0, none⟩) 1 1, .string ⟨#[]⟩, .string ⟨#[]⟩, .string ⟨#[]⟩, .int .i64 0], rOwn w.heap.size 75 1 (.slice (some ⟨w2.heap.size, 0, none⟩) 1 1) 1 (gsV [⟨w.heap.size, w2.heap.size, g1, nd1⟩]), rAll rNode [⟨w.heap.size, w2.heap.size, g1, nd1⟩]] := hS4
  clear hS4
  go_upto_block 0 with (fail)
  go_cut [] (fun W => ∃ (xs : List Nl) (A : Option Addr) (c : Nat) (t' : PSt), (xs.map (fun x => x.t), t') = R ∧ POk s t' ∧ t.at_ ≤ t'.at_ ∧ PAt W b s t' ∧ 1 ≤ xs.length ∧ xs.length ≤ s.size + 1 ∧ Px w b W [rBlk gn 106 #[.int .i64 kind, .slice A xs.length c, .string ⟨#[]⟩, .string ⟨#[]⟩, .string ⟨#[]⟩, .int .i64 0], rOwn w.heap.size 75 1 (.slice A xs.length c) xs.length (gsV xs), rAll rNode xs])
  case first =>
    go_wp2_with fail
    go_loopw [] (fun wr => ∃ (xs : List Nl) (A : Option Addr) (c : Nat) (t' : PSt) (m : Nat), Hid (loopF s word part m (xs.map (fun x => x.t)) t' = R) ∧ s.size - t'.at_ < m ∧ POk s t' ∧ t.at_ ≤ t'.at_ ∧ PAt wr b s t' ∧ 1 ≤ xs.length ∧ xs.length ≤ t'.at_ + 1 ∧ Px w b wr [rBlk gn 106 #[.int .i64 kind, .slice A xs.length c, .string ⟨#[]⟩, .string ⟨#[]⟩, .string ⟨#[]⟩, .int .i64 0], rOwn w.heap.size 75 1 (.slice A xs.length c) xs.length (gsV xs), rAll rNode xs]) (fun wr => s.size + 1 - atCell wr b)
    case atStart => exact ⟨[⟨w.heap.size, w2.heap.size, g1, nd1⟩], _, _, t1, s.size + 1, HRR, by omega, ok2, le2, P4, Nat.le_refl _, by simp, hS5⟩
    case round =>
      clear hS5 P4 ok2 le2
      obtain ⟨xs, A, c, t', m, HL, hm, ok3, le3, P, hx1, hx2, hS⟩ := hrel
      obtain ⟨n, hn⟩ : ∃ n, xs.length = n := ⟨_, rfl⟩
      rw [hn] at hS hx1 hx2
      have HN := Lib.hid hn
      obtain ⟨c0, c1, c2, c3, c4, f1, f2, f3, f4⟩ := P.cells
      obtain ⟨bd, hbd⟩ : ∃ bd, t'.bad = bd := ⟨_, rfl⟩
      obtain ⟨T, hT⟩ : ∃ T, t'.tok = T := ⟨_, rfl⟩
      rw [hbd] at c4
      rw [hT] at c2
      have ha3 := ok3.at_
      rw [hT] at ha3
      have HPa := Lib.hid P.at_cell
      cases bd
      · by_cases hTw : T = word
        · have e1 : (T.toList == word.toList) = true := (tokB T _ word (Lib.toList_data word).symm).trans (decide_eq_true hTw)
          obtain ⟨t2, ht2⟩ : ∃ t2, nextF s t' = t2 := ⟨_, rfl⟩
          have htk : takeF s t' true = t2 := by unfold takeF; rw [hbd]; simpa using ht2
          have ok4 : POk s t2 := by rw [← ht2]; exact ok3.next
          have bad4 : t2.bad = false := by rw [← ht2]; exact hbd
          have ge4 : t'.at_ + T.size ≤ t2.at_ := by rw [← ht2, ← hT]; exact next_ge
          have hTs : 1 ≤ T.size := by rw [hTw]; exact hw
          obtain ⟨m', rfl⟩ : ∃ m', m = m' + 1 := ⟨m - 1, by omega⟩
          obtain ⟨nd, hnd⟩ : ∃ nd, (part t2).1 = nd := ⟨_, rfl⟩
          obtain ⟨t3, ht3⟩ : ∃ t3, (part t2).2 = t3 := ⟨_, rfl⟩
          have HLS : Hid (loopF s word part m' (xs.map (fun x => x.t) ++ [nd]) t3 = R) := by
            rw [← hnd, ← ht3, ← ht2, ← loop_step s word part m' _ t' ⟨hbd, hT.trans hTw⟩]
            exact HL
          have HTK := Lib.hid (take_calls_ b s t' true wr P ok3 hs)
          rw [htk] at HTK
          have HND := Lib.hid hnd
          have HT3 := Lib.hid ht3
          have HBA := Lib.hid bad4
          clear hbd hT hTw ht2 htk hnd ht3 bad4 hn HL
          go_wp2_with fail
          refine HTK.out.mono ?_
          rintro e w3 ⟨rfl, P3, B3⟩
          have hS3 := hS.call B3
          obtain ⟨k1, k2⟩ := hS3.nodeC_cells 0 rfl
          have HC1 : Hid (Calls Tryz.prog 91 #[.pointer (some ⟨gp, 0, none⟩), .pointer (some ⟨gd, 0, none⟩)] w3.drew (fun e w4 => ∃ x4 : Nl, e = .returned (ptrV x4.g) ∧ x4.t = nd ∧ w.heap.size ≤ w4.heap.size ∧ PAt w4 b s t3 ∧ POk s t3 ∧ t2.at_ ≤ t3.at_ ∧ Px w b w4 [rOwn w.heap.size 75 1 (.slice A n c) n (gsV xs), rAll rNode (xs ++ [x4]), rBlk gn 106 #[.int .i64 kind, .slice A n c, .string ⟨#[]⟩, .string ⟨#[]⟩, .string ⟨#[]⟩, .int .i64 0]])) := by
            refine (HPP.out w3.drew t2 hS3.drew.bx P3 ok4 HBA.out (by omega)).mono ?_
            rintro e w4 ⟨g4, rfl, N4, P4, B4, ok5, le5⟩
            rw [HND.out] at N4
            rw [HT3.out] at P4 ok5 le5
            have hS4 := ((((hS3.drew.node B4 N4).front 3 rfl rfl).front 1 rfl rfl).snoc rNode_ok).front 2 rfl rfl
            exact ⟨_, rfl, rfl, hS4.size, P4, ok5, le5, hS4⟩
          have HG : Hid (∀ W l (i : Nat), Px w b W l → l[i]? = some (rBlk gn 106 #[.int .i64 kind, .slice A n c, .string ⟨#[]⟩, .string ⟨#[]⟩, .string ⟨#[]⟩, .int .i64 0]) → W.cell? ⟨gn, 1, none⟩ = some (.slice A n c) ∧ W.frozen? ⟨gn, 1, none⟩ = false) := fun W l i h hl => h.nodeC_cells i hl
          have HLT : Hid (∀ W l (i : Nat), Px w b W l → l[i]? = some (rBlk gn 106 #[.int .i64 kind, .slice A n c, .string ⟨#[]⟩, .string ⟨#[]⟩, .string ⟨#[]⟩, .int .i64 0]) → gn < W.heap.size) := fun W l i h hl => (h.ge i hl (g := gn) rfl).2
          have h63 : n + 1 ≤ maxLen := by unfold maxLen; omega
          have hby : (n + 1) * 8 ≤ 140737488355328 := by omega
          clear hS c0 c1 c2 c3 c4 f1 f2 f3 f4 e1 HTK
          go_wp2_with fail
          go_region_law (first
            | (go_simp; go_at_call 91; ((with_reducible refine HC1.out.mono ?_); rintro e w4 ⟨x4, rfl, hx4, hsz4, P4, ok5, le5, hS5⟩; obtain ⟨k1, k2⟩ := HG.out _ _ 2 hS5 rfl; have hlt4 := (HLT.out _ _ 2 hS5 rfl)))
            | (refine step_append_lies _ (by rfl) _ _ _ (by rfl) w.heap.size 75 i0 (.pointer none) 1 8 Tryz.underlying102 hi hz0 hz1 hz2 rfl (by omega) (.slice A n c) n (gsV xs) (by rfl) ((hS5.alloc _).head) ⟨w4.heap.size, 0, none⟩ 1 1 [ptrV x4.g] (by rfl) (by rfl) (news_new _ _ _ _ rfl) (one1p _) (by omega) h63 hby (base1 hsz4 _) _ rfl ?_; intro g2 cap2 w5 hown' hgrow hblk hlt5; have hV := (hS5.alloc _).append hown' hgrow (own_lies hblk); have P5 := (P4.below ((Below.refl _ _).alloc (Nat.le_refl _) _)).keep ((hS5.alloc _).keepB hgrow); obtain ⟨k1, k2⟩ := HG.out _ _ 2 hV rfl; clear hown' hgrow hblk))
          all_goals
            have hV2 := (hV.front 2 rfl rfl).set_ 1 (.slice (some ⟨g2, 0, none⟩) (n + 1) cap2)
            have hbn : b ≠ gn := by have := hS3.hb; omega
            have P6 := P5.far hbn 1 (.slice (some ⟨g2, 0, none⟩) (n + 1) cap2)
            have HA6 := Lib.hid P6.at_cell
            have hln : (xs ++ [x4]).length = n + 1 := by rw [List.length_append, HN.out]; rfl
            go_wp2_with fail
            go_roundw
            case rel =>
              refine ⟨xs ++ [x4], some ⟨g2, 0, none⟩, cap2, t3, m', ?_, by omega, ok5, by omega, P6, by omega, by omega, ?_⟩
              · rw [List.map_append, List.map_singleton, hx4]; exact HLS
              · rw [hln]
                have hg : gsV (xs ++ [x4]) = gsV xs ++ [ptrV x4.g] := by unfold gsV; rw [List.map_append]; rfl
                rw [hg]
                exact hV2
            case measure =>
              have h1 := HA6.out
              have h2 := HPa.out
              have h3 := ok5.at_
              rw [h1, h2]
              omega
        · have e1 : (T.toList == word.toList) = false := (tokB T _ word (Lib.toList_data word).symm).trans (decide_eq_false hTw)
          have HE : Hid ((xs.map (fun x => x.t), t') = R) := by rw [← HL.out, loop_stop _ _ _ _ _ _ (fun h => hTw (hT.symm.trans h.2))]; exact Lib.hid rfl
          clear hbd hT hTw hn
          go_wp2_with fail
          go_meet
          exact ⟨xs, A, c, t', HE, ok3, le3, P, by rw [HN.out]; exact hx1, by rw [HN.out]; omega, by rw [HN.out]; exact hS⟩
      · have HE : Hid ((xs.map (fun x => x.t), t') = R) := by rw [← HL.out, loop_stop _ _ _ _ _ _ (fun h => by rw [hbd] at h; exact absurd h.1 (by decide))]; exact Lib.hid rfl
        clear hbd hT hn
        go_wp2_with fail
        go_meet
        exact ⟨xs, A, c, t', HE, ok3, le3, P, by rw [HN.out]; exact hx1, by rw [HN.out]; omega, by rw [HN.out]; exact hS⟩
  case rest =>
    obtain ⟨xs, A, c, t', hRx, ok3, le3, P, hx1, hx2, hS⟩ := hcut
    clear P4 hS5
    have HRX := Lib.hid hRx
    clear hRx
    obtain ⟨n, hn⟩ : ∃ n, xs.length = n := ⟨_, rfl⟩
    rw [hn] at hS hx1 hx2
    have HN := Lib.hid hn
    obtain ⟨k1, k2⟩ := hS.nodeC_cells 0 rfl
    have hrow : wc.ownsRow w.heap.size 75 1 (.slice A n c) n (gsV xs) := hS.nth 1 rfl
    clear hn
    by_cases h1 : n = 1
    · subst h1
      obtain ⟨gi, ci, hv, _⟩ := hrow.form (by omega)
      injection hv with hAI _ hcI
      subst hAI hcI
      have hlx : 0 < xs.length := by rw [HN.out]; omega
      have kc : wc.cell? ⟨gi, 0, none⟩ = some (ptrV xs[0].g) := by rw [hrow.cellAt 0 (by omega)]; unfold gsV; rw [List.getElem?_map, List.getElem?_eq_getElem hlx]; rfl
      have hnode := hS.node_at 2 rfl xs[0] (List.getElem_mem hlx)
      have HF : Hid (joinF kind R.1 = xs[0].t ∧ R.2 = t') := by
        rw [← HRX.out]
        obtain ⟨x0, hx0⟩ : ∃ x0, xs = [x0] := List.length_eq_one_iff.1 HN.out
        subst hx0
        exact Lib.hid ⟨rfl, rfl⟩
      go_wp2_with fail
      go_ret
      exact ⟨xs[0].g, rfl, by rw [HF.out.1]; exact hnode, by rw [HF.out.2]; exact P, hS.bx, by rw [HF.out.2]; exact ok3, by rw [HF.out.2]; exact le3⟩
    · have hne : ((n : Int) == 1) = false := by simp; omega
      have HF : Hid (joinF kind R.1 = .node kind (xs.map (fun x => x.t)) atm0 ∧ R.2 = t') := by
        rw [← HRX.out]
        exact Lib.hid ⟨joinF_many _ _ (by rw [List.length_map, HN.out]; exact h1), rfl⟩
      have hnode : NodeAt wc w.heap.size wc.heap.size gn (.node kind (xs.map (fun x => x.t)) atm0) := by
        have hgn2 := hS.ge 0 rfl (g := gn) rfl
        refine .mk gn kind atm0 (.slice A n c) (xs.map (fun x => x.g)) _ hgn2 (hS.nth 0 rfl) ?_ (fun k e => (hS.ge 1 rfl (g := k) e).2) (by simp) (fun i hi_ hk => ?_)
        · rw [List.length_map, HN.out, List.map_map]
          exact hrow
        · have hix : i < xs.length := by simpa using hk
          have := hS.node_at 2 rfl xs[i] (List.getElem_mem hix)
          simpa using this
      go_wp2_with fail
      go_ret
      exact ⟨gn, rfl, by rw [HF.out.1]; exact hnode, by rw [HF.out.2]; exact P, hS.bx, by rw [HF.out.2]; exact ok3, by rw [HF.out.2]; exact le3⟩
end Go.Proofs.YtipbhgefcmekpaaGreatDoor
/-
  The parser of rules, on: or, not, parse by contracts, where no token is 'time'. (Printed by gen_rule5.py.)
-/
namespace Go.Proofs.YtipbhgefcmekpaaGreatDoor
open Go Go.RowKit

theorem Px.node_keep {w W : World} {b : Nat} {l : List Rsc} {x : Nl} (h : Px w b W l) (i : Nat) (hi : l[i]? = some (rNode x)) : NodeAt W w.heap.size W.heap.size x.g x.t := by
  have h1 : NodeAt W x.lo x.hi x.g x.t := h.nth i hi
  have h2 := h1.lt
  have h3 := h.ge i hi (g := x.lo) ⟨Nat.le_refl _, by omega⟩
  have h4 := h.ge i hi (g := x.hi - 1) ⟨by omega, by omega⟩
  exact h1.wide h3.1 (by omega)
def NotC (num : ByteArray → Int × Bool) (b : Nat) (s : ByteArray) (f : Nat) (d : Int) (lo : Nat) : Prop :=
  ∀ W t, PAt W b s t → POk s t → t.bad = false → lo ≤ t.at_ → Calls Tryz.prog 92 #[.pointer (some ⟨b, 0, none⟩), .int .i64 d] W (NodS b s (notF num s f d t) t.at_ W)
theorem NodS.of_below {b : Nat} {s : ByteArray} {r : Nd × PSt} {lo : Nat} {w w1 : World} {e : Ending} {w' : World} (_hb : b < w.heap.size) (k : Below w.heap.size w w1) (h : NodS b s r lo w1 e w') : NodS b s r lo w e w' := by
  obtain ⟨g, he, h1, h2, h3, h4, h5⟩ := h
  exact ⟨g, he, h1.wide k.size (Nat.le_refl _), h2, (Bx.of_below k b).call h3 (Nat.le_refl _), h4, h5⟩

set_option maxRecDepth 100000 in
theorem or11_calls (num : ByteArray → Int × Bool) (gp gd b : Nat) (s : ByteArray) (t : PSt) (f : Nat) (d : Int) (lo : Nat) (w : World) (h : PAt w b s t) (hok : POk s t) (hbad : t.bad = false) (hlo : lo ≤ t.at_)
    (hp : Blk w gp 98 #[.pointer (some ⟨b, 0, none⟩)]) (hd : Blk w gd 3 #[.int .i64 d]) (HN : NotC num b s f d lo) :
    Calls Tryz.prog 91 #[.pointer (some ⟨gp, 0, none⟩), .pointer (some ⟨gd, 0, none⟩)] w (NodS b s (notF num s f d t) t.at_ w) := by
  have HC := Lib.hid (HN w t h hok hbad hlo)
  have k0 := hp.cell 0
  have k1 := hd.cell 0
  clear h hok hbad hlo HN hp hd
  go_enter Tryz.func91, Tryz.ntmps91
  go_wp2_with fail
  refine HC.out.mono ?_
  rintro e w2 ⟨g, rfl, h1, h2, h3, h4, h5⟩
  go_wp2_with fail
  go_ret
  exact ⟨g, rfl, h1, h2, h3, h4, h5⟩

set_option maxRecDepth 100000 in
theorem or1_calls (num : ByteArray → Int × Bool) (gp gd b : Nat) (s : ByteArray) (t : PSt) (f : Nat) (d : Int) (lo : Nat) (w : World) (hs : s.size ≤ 100000) (h : PAt w b s t) (hok : POk s t) (hbad : t.bad = false) (hlo : lo ≤ t.at_)
    (hp : Blk w gp 98 #[.pointer (some ⟨b, 0, none⟩)]) (hd : Blk w gd 3 #[.int .i64 d]) (hpb : gp ≠ b) (hdb : gd ≠ b) (HN : NotC num b s f d lo) :
    Calls Tryz.prog 90 #[.pointer (some ⟨gp, 0, none⟩), .pointer (some ⟨gd, 0, none⟩)] w (NodS b s (manyF s 2 sAnd (notF num s f d) t) t.at_ w) := by
  have HC := Lib.hid (many2_calls (notF num s f d) gp gd b s t 2 sAnd lo w h hok hs hbad hlo (by decide) (fun W t' hW hP hK hB hL => or11_calls num gp gd b s t' f d lo W hP hK hB hL (hp.bx hW hpb) (hd.bx hW hdb) HN))
  have k0 := hp.cell 0
  clear h hok hbad hlo HN hp hd hpb hdb
  go_enter Tryz.func90, Tryz.ntmps90
  go_wp2_with fail
  refine HC.out.mono ?_
  rintro e w2 ⟨g, rfl, h1, h2, h3, h4, h5⟩
  go_wp2_with fail
  go_ret
  exact ⟨g, rfl, h1, h2, h3, h4, h5⟩

set_option maxRecDepth 100000 in
theorem or_calls (num : ByteArray → Int × Bool) (b : Nat) (s : ByteArray) (t : PSt) (f : Nat) (d : Int) (lo : Nat) (w : World) (hs : s.size ≤ 100000) (h : PAt w b s t) (hok : POk s t) (hbad : t.bad = false) (hlo : lo ≤ t.at_) (HN : NotC num b s f d lo) :
    Calls Tryz.prog 63 #[.pointer (some ⟨b, 0, none⟩), .int .i64 d] w (NodS b s (orF num s f d t) t.at_ w) := by
  have hb := h.lt
  have hS := ((Px.start w hb).add #[.pointer (some ⟨b, 0, none⟩)] 98).add #[.int .i64 d] 3
  have hz : (w.alloc (.cells #[.pointer (some ⟨b, 0, none⟩)] 98)).heap.size = w.heap.size + 1 := by simp
  rw [hz] at hS
  have hB : Below w.heap.size w ((w.alloc (.cells #[.pointer (some ⟨b, 0, none⟩)] 98)).alloc (.cells #[.int .i64 d] 3)) := ((Below.refl _ _).alloc (Nat.le_refl _) _).alloc (by simp) _
  have hpb : w.heap.size ≠ b := by omega
  have hdb : w.heap.size + 1 ≠ b := by omega
  have hp := hS.nth 1 rfl
  have hd := hS.nth 0 rfl
  have HC := Lib.hid (many1_calls (manyF s 2 sAnd (notF num s f d)) w.heap.size (w.heap.size + 1) b s t 1 sOr lo _ (h.below hB) hok hs hbad hlo (by decide) (fun W t' hW hP hK hB' hL => or1_calls num w.heap.size (w.heap.size + 1) b s t' f d lo W hs hP hK hB' hL (Blk.bx hp hW hpb) (Blk.bx hd hW hdb) hpb hdb HN))
  clear h hok hbad hlo HN hp hd hpb hdb hS hz
  go_enter Tryz.func63, Tryz.ntmps63
  go_wp2_with fail
  refine HC.out.mono ?_
  intro e w2 hN
  have hN2 : NodS b s (orF num s f d t) t.at_ w e w2 := NodS.of_below hb hB hN
  obtain ⟨g, rfl, h1, h2, h3, h4, h5⟩ := hN2
  clear hN
  go_wp2_with fail
  go_ret
  exact ⟨g, rfl, h1, h2, h3, h4, h5⟩

theorem takeT (s : ByteArray) (t : PSt) (h : t.bad = false) : takeF s t true = nextF s t ∧ (nextF s t).bad = false := by
  unfold takeF
  rw [h]
  exact ⟨by simp, h⟩
theorem nest_keep (d : Int) (t : PSt) : (nestF d t).at_ = t.at_ ∧ (nestF d t).tok = t.tok ∧ (nestF d t).bad = t.bad := by
  unfold nestF
  split <;> exact ⟨rfl, rfl, rfl⟩
set_option maxRecDepth 100000 in
set_option maxHeartbeats 1000000 in
theorem not_calls (num : ByteArray → Int × Bool) (b : Nat) (s : ByteArray) (hs : s.size ≤ 100000) (hn : NoTime s) : ∀ (f : Nat) (d : Int) (lo : Nat), 0 ≤ d → d ≤ lo → s.size < lo + f → NotC num b s f d lo
  | 0, d, lo, _, _, hf => fun W t _ hok _ hlo => by
    have := hok.at_
    omega
  | f + 1, d, lo, h0, h1, hf => fun w t h hok hbad hlo => by
    have hb := h.lt
    obtain ⟨n1, n2, n3⟩ := nest_keep d t
    obtain ⟨t0, ht0⟩ : ∃ t0, nestF d t = t0 := ⟨_, rfl⟩
    rw [ht0] at n1 n2 n3
    have hok0 : POk s t0 := by rw [← ht0]; exact hok.nest d
    obtain ⟨k1, k2⟩ := takeT s t0 (n3.trans hbad)
    obtain ⟨t1, ht1⟩ : ∃ t1, nextF s t0 = t1 := ⟨_, rfl⟩
    rw [ht1] at k1 k2
    have hok1 : POk s t1 := by rw [← ht1]; exact hok0.next
    have ge1 : t.at_ + t.tok.size ≤ t1.at_ := by rw [← ht1, ← n1, ← n2]; exact next_ge
    have hat := hok.at_
    have hat1 := hok1.at_
    obtain ⟨T, hT⟩ : ∃ T, t.tok = T := ⟨_, rfl⟩
    rw [hT] at ge1
    have HNE : Hid (∀ W, PAt W b s t → Calls Tryz.prog 110 #[.pointer (some ⟨b, 0, none⟩), .int .i64 d] W (ParS b s t0 (.tuple #[]) W)) := fun W hW => by rw [← ht0]; exact nest_calls_ b s t d W hW
    have HTK : Hid (∀ W, PAt W b s t0 → Calls Tryz.prog 109 #[.pointer (some ⟨b, 0, none⟩), .bool true] W (ParS b s t1 (.string (takeS t0 true)) W)) := fun W hW => by
      have := take_calls_ b s t0 true W hW hok0 hs
      rw [k1] at this
      exact this
    have IH := not_calls num b s hs hn f (d + 1) t1.at_ (by omega)
    obtain ⟨c0, c1, c2, c3, c4, f1, f2, f3, f4⟩ := h.cells
    rw [hT] at c2
    by_cases q1 : t.tok = sNot
    · have hT3 : T.size = 3 := by rw [← hT, q1]; rfl
      have e1 : (T.toList == [110, 111, 116]) = true := (tokB _ [110, 111, 116] sNot rfl).trans (decide_eq_true (hT.symm.trans q1))
      have HC : Hid (∀ W, PAt W b s t1 → Calls Tryz.prog 92 #[.pointer (some ⟨b, 0, none⟩), .int .i64 (d + 1)] W (NodS b s (notF num s f (d + 1) t1) t1.at_ W)) := fun W hW => IH (by omega) (by omega) W t1 hW hok1 k2 (Nat.le_refl _)
      have HR : Hid (notF num s (f + 1) d t = (.node 3 [(notF num s f (d + 1) t1).1] atm0, (notF num s f (d + 1) t1).2)) := by rw [notF, if_pos q1, ht0, k1]; exact Lib.hid rfl
      rw [HR.out]
      obtain ⟨r, hr⟩ : ∃ r, notF num s f (d + 1) t1 = r := ⟨_, rfl⟩
      rw [hr]
      rw [hr] at HC
      clear IH hT q1 ht0 ht1 hr n1 n2 n3 k1 k2 hbad HR
      go_enter Tryz.func92, Tryz.ntmps92
      go_wp2_with fail
      refine (HNE.out _ h).mono ?_
      rintro e w2 ⟨rfl, P2, B2⟩
      go_wp2_with fail
      refine (HTK.out _ P2).mono ?_
      rintro e w3 ⟨rfl, P3, B3⟩
      have hS3 := ((Px.start w hb).call B2).call B3
      go_wp2_with fail
      refine (HC.out _ P3).mono ?_
      rintro e w4 ⟨g, rfl, N4, P4, B4, ok4, le4⟩
      have hS4 := hS3.node B4 N4
      have hS5 := (hS4.addRow #[ptrV g] 75 1 1 rfl (by decide)).add #[.int .i64 3, .slice (some ⟨w4.heap.size, 0, none⟩) 1 1, .string ⟨#[]⟩, .string ⟨#[]⟩, .string ⟨#[]⟩, .int .i64 0] 106
      have P5 := (P4.below ((Below.refl _ _).alloc (Nat.le_refl _) (.cells #[ptrV g] 75))).below ((Below.refl _ _).alloc (Nat.le_refl _) (.cells #[.int .i64 3, .slice (some ⟨w4.heap.size, 0, none⟩) 1 1, .string ⟨#[]⟩, .string ⟨#[]⟩, .string ⟨#[]⟩, .int .i64 0] 106))
      have hgs : (w4.alloc (.cells #[ptrV g] 75)).heap.size = w4.heap.size + 1 := by simp
      rw [hgs] at hS5
      clear c0 c1 c2 c3 c4 f1 f2 f3 f4 e1 hS4 hS3
      go_wp2_with fail
      go_ret
      refine ⟨w4.heap.size + 1, rfl, ?_, P5, hS5.bx, ok4, by show t.at_ ≤ r.2.at_; omega⟩
      refine .mk (w4.heap.size + 1) 3 atm0 (.slice (some ⟨w4.heap.size, 0, none⟩) 1 1) [g] [r.1] (hS5.ge 0 rfl (g := w4.heap.size + 1) rfl) (hS5.nth 0 rfl) (hS5.nth 1 rfl) (fun k e => (hS5.ge 1 rfl (g := k) e).2) rfl (fun i hi_ hk => ?_)
      obtain rfl : i = 0 := by simp at hk; omega
      exact hS5.node_keep 2 rfl
    by_cases q2 : t.tok = sOpen
    · have hT1 : T.size = 1 := by rw [← hT, q2]; rfl
      have e1 : (T.toList == [110, 111, 116]) = false := (tokB _ [110, 111, 116] sNot rfl).trans (decide_eq_false (by rw [← hT]; exact q1))
      have e2 : (T.toList == [40]) = true := (tokB _ [40] sOpen rfl).trans (decide_eq_true (hT.symm.trans q2))
      have HC : Hid (∀ W, PAt W b s t1 → Calls Tryz.prog 63 #[.pointer (some ⟨b, 0, none⟩), .int .i64 (d + 1)] W (NodS b s (orF num s f (d + 1) t1) t1.at_ W)) := fun W hW => or_calls num b s t1 f (d + 1) t1.at_ W hs hW hok1 k2 (Nat.le_refl _) (IH (by omega) (by omega))
      obtain ⟨r, hr⟩ : ∃ r, orF num s f (d + 1) t1 = r := ⟨_, rfl⟩
      obtain ⟨T2, hT2⟩ : ∃ T2, r.2.tok = T2 := ⟨_, rfl⟩
      obtain ⟨q, hq⟩ : ∃ q, decide (T2 = sShut) = q := ⟨_, rfl⟩
      have eq1 : (T2.toList == [41]) = q := (tokB T2 [41] sShut rfl).trans hq
      have HR : Hid (notF num s (f + 1) d t = (r.1, takeF s r.2 q)) := by
        rw [notF, if_neg q1, if_pos q2, ht0, k1]
        have : manyF s 1 sOr (manyF s 2 sAnd (notF num s f (d + 1))) t1 = r := hr
        simp only [this, hT2, hq]
        exact Lib.hid trivial
      rw [HR.out]
      rw [hr] at HC
      have HQ := Lib.hid eq1
      have HT2 := Lib.hid hT2
      clear IH hT q1 q2 ht0 ht1 hr n1 n2 n3 k1 k2 hbad HR hq eq1 hT2
      go_enter Tryz.func92, Tryz.ntmps92
      go_wp2_with fail
      refine (HNE.out _ h).mono ?_
      rintro e w2 ⟨rfl, P2, B2⟩
      go_wp2_with fail
      refine (HTK.out _ P2).mono ?_
      rintro e w3 ⟨rfl, P3, B3⟩
      have hS3 := ((Px.start w hb).call B2).call B3
      go_wp2_with fail
      refine (HC.out _ P3).mono ?_
      rintro e w4 ⟨g, rfl, N4, P4, B4, ok4, le4⟩
      have hS4 := hS3.node B4 N4
      clear c0 c1 c2 c3 c4 f1 f2 f3 f4 e1 e2
      obtain ⟨c0, c1, c2, c3, c4, f1, f2, f3, f4⟩ := P4.cells
      rw [HT2.out] at c2
      go_wp2_with fail
      rw [HQ.out]
      refine (take_calls_ b s r.2 q w4 P4 ok4 hs).mono ?_
      rintro e w5 ⟨rfl, P5, B5⟩
      have hS5 := hS4.call B5
      clear c0 c1 c2 c3 c4 f1 f2 f3 f4
      go_wp2_with fail
      go_ret
      refine ⟨g, rfl, ?_, P5, hS5.bx, ok4.take q, ?_⟩
      · have h1 : NodeAt w5 w3.heap.size w4.heap.size g r.1 := hS5.nth 0 rfl
        exact h1.wide hS3.size B5.size
      · have := take_ge (s := s) (t := r.2) q
        show t.at_ ≤ (takeF s r.2 q).at_
        omega
    · have e1 : (T.toList == [110, 111, 116]) = false := (tokB _ [110, 111, 116] sNot rfl).trans (decide_eq_false (by rw [← hT]; exact q1))
      have e2 : (T.toList == [40]) = false := (tokB _ [40] sOpen rfl).trans (decide_eq_false (by rw [← hT]; exact q2))
      obtain ⟨r, hr⟩ : ∃ r, atomF num s t = r := ⟨_, rfl⟩
      have HC := Lib.hid (atom_calls num b s t w h hok hs (hok.noTime hn))
      have HR : Hid (notF num s (f + 1) d t = (.node 4 [] r.1, r.2)) := by rw [notF, if_neg q1, if_neg q2, hr]; exact Lib.hid rfl
      have HK : Hid (POk s r.2 ∧ t.at_ ≤ r.2.at_) := by rw [← hr]; exact Lib.hid (atom_ok num hok)
      rw [HR.out]
      rw [hr] at HC
      clear IH hT q1 q2 ht0 ht1 hr n1 n2 n3 k1 k2 hbad HR
      go_enter Tryz.func92, Tryz.ntmps92
      go_wp2_with fail
      refine HC.out.mono ?_
      rintro e w2 ⟨rfl, P2, B2⟩
      have hS2 := ((Px.start w hb).call B2).add (nodeC 4 (.slice none 0 0) r.1) 106
      have P3 := P2.below ((Below.refl _ _).alloc (Nat.le_refl _) (.cells (nodeC 4 (.slice none 0 0) r.1) 106))
      clear c0 c1 c2 c3 c4 f1 f2 f3 f4 e1 e2
      unfold atmV
      go_wp2_with fail
      go_ret
      refine ⟨w2.heap.size, rfl, ?_, P3, hS2.bx, HK.out.1, HK.out.2⟩
      exact .mk w2.heap.size 4 r.1 (.slice none 0 0) [] [] (hS2.ge 0 rfl (g := w2.heap.size) rfl) (hS2.nth 0 rfl) (World.ownsRow_nil _ _ _ _) (fun k e => by simp [Value.ownBlock] at e) rfl (fun i hi_ => absurd hi_ (by simp))

/-- what parse answers -/
def ParseS (num : ByteArray → Int × Bool) (s : ByteArray) (w : World) (e : Ending) (w' : World) : Prop :=
  ∃ v, e = .returned (.tuple #[v, .int .i64 (parseE num s).1, .int .i64 (parseE num s).2]) ∧ Below w.heap.size w w' ∧ ((parseE num s).2 = 0 → ∃ g, v = ptrV g ∧ NodeAt w' w.heap.size w'.heap.size g (parseT num s).1)
set_option maxRecDepth 100000 in
theorem parse_calls (num : ByteArray → Int × Bool) (s : ByteArray) (w : World) (hs : s.size ≤ 100000) (hn : NoTime s) :
    Calls Tryz.prog 37 #[.string s] w (ParseS num s w) := by
  by_cases hl : 2000 < s.size
  · have HR : Hid (parseE num s = (0, 2)) := by unfold parseE; rw [if_pos hl]; exact Lib.hid rfl
    go_enter Tryz.func37, Tryz.ntmps37
    go_wp2_with fail
    go_ret3
    exact ⟨.pointer none, by rw [HR.out]; rfl, Below.refl _ _, fun h => by rw [HR.out] at h; simp at h⟩
  · have P0 : PAt (w.alloc (.cells #[.string s, .int .i64 0, .string ⟨#[]⟩, .int .i64 (-1), .bool false] 100)) w.heap.size s ⟨0, ⟨#[]⟩, -1, false⟩ := Blk.new w _ _
    have hB0 : Bx w.heap.size w.heap.size w (w.alloc (.cells #[.string s, .int .i64 0, .string ⟨#[]⟩, .int .i64 (-1), .bool false] 100)) := (Bx.refl _ _ _).alloc (Nat.le_refl _) _
    have HC1 := Lib.hid (next_calls_ w.heap.size s _ _ P0 (pst_ok s) hs)
    have ok1 : POk s (pst0 s) := (pst_ok s).next
    have HC2 : Hid (∀ W, PAt W w.heap.size s (pst0 s) → Calls Tryz.prog 63 #[.pointer (some ⟨w.heap.size, 0, none⟩), .int .i64 0] W (NodS w.heap.size s (parseT num s) (pst0 s).at_ W)) := fun W hW =>
      or_calls num w.heap.size s (pst0 s) (s.size + 1) 0 0 W hs hW ok1 rfl (Nat.zero_le _) (not_calls num w.heap.size s hs hn (s.size + 1) 0 0 (by omega) (by omega) (by omega))
    obtain ⟨r, hr⟩ : ∃ r, parseT num s = r := ⟨_, rfl⟩
    rw [hr] at HC2
    obtain ⟨bd, hbd⟩ : ∃ bd, r.2.bad = bd := ⟨_, rfl⟩
    have HR : Hid (parseE num s = if (bd || decide (r.2.at_ < s.size)) = true then ((r.2.at_ : Int), 9) else if 0 ≤ r.2.deep then (r.2.deep, 2) else (0, 0)) := by unfold parseE; rw [if_neg hl, hr, hbd]; exact Lib.hid rfl
    have HRR := Lib.hid hr
    have HBD := Lib.hid hbd
    clear hr hbd ok1
    go_enter Tryz.func37, Tryz.ntmps37
    go_wp2_with fail
    refine HC1.out.mono ?_
    rintro e w2 ⟨rfl, P2, B2⟩
    have hB2 := hB0.call B2 (Nat.le_refl _)
    go_wp2_with fail
    refine (HC2.out _ P2).mono ?_
    rintro e w3 ⟨g, rfl, N3, P3, B3, ok3, _⟩
    have hB3 := (hB2.call B3 (Nat.le_refl _)).below (Nat.le_refl _)
    have hN3 : NodeAt w3 w.heap.size w3.heap.size g r.1 := N3.wide hB2.size (Nat.le_refl _)
    clear hB0 hB2 HC1 HC2 P0 P2 B2 N3 B3
    obtain ⟨c0, c1, c2, c3, c4, f1, f2, f3, f4⟩ := P3.cells
    rw [HBD.out] at c4
    have hat := ok3.at_
    have hdp := ok3.deep
    clear P3 ok3
    cases bd
    · by_cases h2 : r.2.at_ < s.size
      · have HE : Hid (parseE num s = ((r.2.at_ : Int), 9)) := by rw [HR.out, if_pos (by simp [h2])]; exact Lib.hid rfl
        go_wp2_with fail
        go_quiet (fail)
        go_wp2_with fail
        go_ret3
        exact ⟨.pointer none, by rw [HE.out]; rfl, below_drewN hB3 _, fun h => by rw [HE.out] at h; simp at h⟩
      · by_cases h3 : 0 ≤ r.2.deep
        · have HE : Hid (parseE num s = (r.2.deep, 2)) := by rw [HR.out, if_neg (by simp; omega), if_pos h3]; exact Lib.hid rfl
          go_wp2_with fail
          go_quiet (fail)
          go_wp2_with fail
          go_ret3
          exact ⟨.pointer none, by rw [HE.out]; rfl, below_drewN hB3 _, fun h => by rw [HE.out] at h; simp at h⟩
        · have HE : Hid (parseE num s = (0, 0)) := by rw [HR.out, if_neg (by simp; omega), if_neg h3]; exact Lib.hid rfl
          go_wp2_with fail
          go_ret3
          exact ⟨ptrV g, by rw [HE.out]; rfl, hB3, fun _ => ⟨g, rfl, by rw [HRR.out]; exact hN3⟩⟩
    · have HE : Hid (parseE num s = ((r.2.at_ : Int), 9)) := by rw [HR.out, if_pos (by simp)]; exact Lib.hid rfl
      go_wp2_with fail
      go_quiet (fail)
      go_wp2_with fail
      go_ret3
      exact ⟨.pointer none, by rw [HE.out]; rfl, below_drewN hB3 _, fun h => by rw [HE.out] at h; simp at h⟩
end Go.Proofs.YtipbhgefcmekpaaGreatDoor
/-
  Tidy of rules: an atom's text, a node that is an atom, an or of atoms; Tidy at one string. (Printed by gen_rule6.py.)
-/
namespace Go.Proofs.YtipbhgefcmekpaaGreatDoor
open Go Go.RowKit
attribute [local go_sem ↓] Go.wp_at_zero Go.wp_at_succ

def textF (a : Atm) : ByteArray :=
  if a.word = sTrue then ⟨#[116, 114, 117, 101]⟩ else if a.word = sHas then ⟨#[104, 97, 115, 32]⟩ ++ a.name else if a.word = sEq then (a.name ++ ⟨#[32, 61, 32]⟩) ++ a.value else ((⟨#[116, 105, 109, 101, 32]⟩ ++ a.word) ++ ⟨#[32]⟩) ++ a.value
set_option maxRecDepth 100000 in
theorem text_calls (a : Atm) (w : World) (ha : a.word.size ≤ 100000 ∧ a.name.size ≤ 100000 ∧ a.value.size ≤ 100000) : Calls Tryz.prog 64 #[.agg #[.string a.word, .string a.name, .string a.value, .int .i64 a.n]] w (BRet (.string (textF a)) w) := by
  have hB : Below w.heap.size w (w.alloc (.cells #[.string a.word, .string a.name, .string a.value, .int .i64 a.n] 104)) := (Below.refl _ _).alloc (Nat.le_refl _) _
  have hF : textF a = if a.word = sTrue then ⟨#[116, 114, 117, 101]⟩ else if a.word = sHas then ⟨#[104, 97, 115, 32]⟩ ++ a.name else if a.word = sEq then (a.name ++ ⟨#[32, 61, 32]⟩) ++ a.value else ((⟨#[116, 105, 109, 101, 32]⟩ ++ a.word) ++ ⟨#[32]⟩) ++ a.value := rfl
  obtain ⟨T, hT⟩ : ∃ T, a.word = T := ⟨_, rfl⟩
  rw [hT] at hF
  rw [hT] at hB ha ⊢
  obtain ⟨b1, b2, b3⟩ := ha
  by_cases h1 : T = sTrue
  · have e1 : (T.toList == [116, 114, 117, 101]) = true := (tokB T [116, 114, 117, 101] sTrue rfl).trans (decide_eq_true h1)
    rw [if_pos h1] at hF
    rw [hF]
    clear hF h1 hT
    go_enter Tryz.func64, Tryz.ntmps64
    go_wp2_with fail
    go_ret
    exact ⟨rfl, hB⟩
  have e1 : (T.toList == [116, 114, 117, 101]) = false := (tokB T [116, 114, 117, 101] sTrue rfl).trans (decide_eq_false h1)
  rw [if_neg h1] at hF
  by_cases h2 : T = sHas
  · have e2 : (T.toList == [104, 97, 115]) = true := (tokB T [104, 97, 115] sHas rfl).trans (decide_eq_true h2)
    rw [if_pos h2] at hF
    rw [hF]
    clear hF h1 h2 hT
    go_enter Tryz.func64, Tryz.ntmps64
    go_wp2_with fail
    go_ret
    exact ⟨rfl, hB⟩
  have e2 : (T.toList == [104, 97, 115]) = false := (tokB T [104, 97, 115] sHas rfl).trans (decide_eq_false h2)
  rw [if_neg h2] at hF
  by_cases h3 : T = sEq
  · have e3 : (T.toList == [61]) = true := (tokB T [61] sEq rfl).trans (decide_eq_true h3)
    rw [if_pos h3] at hF
    rw [hF]
    clear hF h1 h2 h3 hT
    go_enter Tryz.func64, Tryz.ntmps64
    go_wp2_with fail
    go_ret
    exact ⟨rfl, hB⟩
  · have e3 : (T.toList == [61]) = false := (tokB T [61] sEq rfl).trans (decide_eq_false h3)
    rw [if_neg h3] at hF
    rw [hF]
    clear hF h1 h2 h3 hT
    go_enter Tryz.func64, Tryz.ntmps64
    go_wp2_with fail
    go_ret
    exact ⟨rfl, hB⟩

def leaf (a : Atm) : Nd := .node 4 [] a
theorem NodeAt.top {w : World} {lo hi g : Nat} {kind : Int} {ks : List Nd} {a : Atm} (h : NodeAt w lo hi g (.node kind ks a)) :
    ∃ (v : Value) (gs : List Nat), Blk w g 106 (nodeC kind v a) ∧ w.ownsRow lo 75 1 v ks.length (gs.map ptrV) ∧ gs.length = ks.length ∧ ∀ i (hi_ : i < gs.length) (hk : i < ks.length), NodeAt w lo hi gs[i] ks[i] := by
  cases h with
  | mk g kind a v gs ks h1 h2 h3 h4 h5 h6 => exact ⟨v, gs, h2, h3, h5, h6⟩
theorem nodeC_cell {w : World} {g : Nat} {kind : Int} {v : Value} {a : Atm} (h : Blk w g 106 (nodeC kind v a)) :
    w.cell? ⟨g, 0, none⟩ = some (.int .i64 kind) ∧ w.cell? ⟨g, 1, none⟩ = some v ∧ w.cell? ⟨g, 2, none⟩ = some (.string a.word) ∧ w.cell? ⟨g, 3, none⟩ = some (.string a.name) ∧ w.cell? ⟨g, 4, none⟩ = some (.string a.value) ∧ w.cell? ⟨g, 5, none⟩ = some (.int .i64 a.n) :=
  ⟨h.cell 0, h.cell 1, h.cell 2, h.cell 3, h.cell 4, h.cell 5⟩
set_option maxRecDepth 100000 in
theorem tidyLeaf_calls (a : Atm) (g lo hi : Nat) (w : World) (ha : a.word.size ≤ 100000 ∧ a.name.size ≤ 100000 ∧ a.value.size ≤ 100000) (h : NodeAt w lo hi g (leaf a)) : Calls Tryz.prog 38 #[.pointer (some ⟨g, 0, none⟩)] w (BRet (.string (textF a)) w) := by
  obtain ⟨v, gs, h2, _⟩ := h.top
  obtain ⟨c0, c1, c2, c3, c4, c5⟩ := nodeC_cell h2
  have HC := Lib.hid (text_calls a w ha)
  clear h h2
  go_enter Tryz.func38, Tryz.ntmps38
  go_wp2_with fail
  refine HC.out.mono ?_
  rintro e w2 ⟨rfl, hb⟩
  go_wp2_with fail
  go_ret
  exact ⟨rfl, hb⟩

def txV (ats : List Atm) : List Value := ats.map fun a => .string (textF a)
def orText (ats : List Atm) : ByteArray := ⟨(Lib.join ((ats.map textF).map (·.data.toList)) [32, 111, 114, 32]).toArray⟩
set_option maxRecDepth 100000 in
set_option maxHeartbeats 1000000 in
theorem tidyOr_calls (ats : List Atm) (g lo hi : Nat) (w : World) (h : NodeAt w lo hi g (.node 1 (ats.map leaf) atm0)) (hhi : hi ≤ w.heap.size) (hsz : ∀ a ∈ ats, a.word.size ≤ 100000 ∧ a.name.size ≤ 100000 ∧ a.value.size ≤ 100000) (h1 : 1 ≤ ats.length) (h2 : ats.length ≤ 100000) (hlen : (Lib.join ((ats.map textF).map (·.data.toList)) [32, 111, 114, 32]).length ≤ 140737488355328) :
    Calls Tryz.prog 38 #[.pointer (some ⟨g, 0, none⟩)] w (BRet (.string (orText ats)) w) := by
  obtain ⟨j0, hj, hy0, hy1, hy2⟩ := info_parts info_str
  obtain ⟨v, gs, hB, hrow, hgs, hkids⟩ := h.top
  obtain ⟨c0, c1, c2, c3, c4, c5⟩ := nodeC_cell hB
  obtain ⟨n, hn⟩ : ∃ n, ats.length = n := ⟨_, rfl⟩
  rw [List.length_map, hn] at hrow hgs
  rw [hn] at h1 h2
  obtain ⟨gk, ck, hv, hck, _⟩ := hrow.form (by omega)
  subst hv
  have hlk : n ≤ ck := (own_cap hrow).1
  have HRW : Hid (∀ i, i < n → ∀ (hi_ : i < gs.length), w.cell? ⟨gk, i, none⟩ = some (ptrV gs[i])) := fun i hin hi_ => by
    rw [hrow.cellAt i (by omega), List.getElem?_map, List.getElem?_eq_getElem hi_]; rfl
  have HK : Hid (∀ i (hi_ : i < gs.length) (hk : i < ats.length), NodeAt w lo hi gs[i] (leaf ats[i])) := fun i hi_ hk => by
    have := hkids i hi_ (by rw [List.length_map]; exact hk)
    rw [List.getElem_map] at this
    exact this
  have HSZ := Lib.hid hsz
  have HN := Lib.hid hn
  have HGS := Lib.hid hgs
  have HJ : Hid (∀ W bk c, n ≤ c → bk < W.heap.size → (∀ (j : Nat) x, (ats.map textF)[j]? = some x → W.cell? ⟨bk, 0 + j, none⟩ = some (.string x)) → Calls Tryz.prog 65 #[.slice (some ⟨bk, 0, none⟩) n c, .string ⟨#[32, 111, 114, 32]⟩] W (BRet (.string (orText ats)) W)) := fun W bk c hc hbk hcl => by
    have := Tryz.strings_Join bk 0 c (ats.map textF) ⟨#[32, 111, 114, 32]⟩ W hcl hbk (by rw [List.length_map, hn]; omega) (by rw [List.length_map, hn]; exact hc) hlen
    rw [List.length_map, hn] at this
    exact this
  have hS0 := (Sq.start w).nil w.heap.size 9 1
  clear h hB hrow hkids hn hgs hlen hsz
  go_enter Tryz.func38, Tryz.ntmps38
  go_wp2_with fail
  go_loopw [5, 54] (fun s5 i wr => ∃ k : Nat, k ≤ n ∧ i = .int .i64 k ∧ Sq w wr [rOwn w.heap.size 9 1 s5 k (txV (ats.take k))]) (fun _ i _ => n - (intOf i).toNat)
  case atStart => exact ⟨0, Nat.zero_le _, rfl, hS0⟩
  case round =>
    clear hS0
    obtain ⟨k, hk, rfl, hS⟩ := hrel
    have d0 := below_cell hS.below c0
    by_cases hlt : k < n
    · have hkg : k < gs.length := by rw [HGS.out]; exact hlt
      have hka : k < ats.length := by rw [HN.out]; exact hlt
      have d1 := below_cell hS.below (HRW.out k hlt hkg)
      have hnode := (HK.out k hkg hka).keep (w' := wr) (fun q _ hq => hS.below.block q (by omega))
      have HC := Lib.hid (tidyLeaf_calls ats[k] gs[k] lo hi wr (HSZ.out _ (List.getElem_mem hka)) hnode)
      have hk0 : (0 : Int) ≤ (k : Int) := by omega
      have hkn : (k : Int) < (n : Int) := by omega
      obtain ⟨x, hx⟩ : ∃ x, textF ats[k] = x := ⟨_, rfl⟩
      rw [hx] at HC
      have HX := Lib.hid hx
      clear hx hnode
      go_wp2_with fail
      refine HC.out.mono ?_
      rintro e w2 ⟨rfl, hb2⟩
      have hS2 := hS.callB hb2
      have d2 := below_cell hS2.below c0
      have hsz2 := hS2.size
      have HO : w2.ownsRow w.heap.size 9 1 u5 k (txV (ats.take k)) := hS2.head
      clear d0 d1 hS
      go_wp2_with (first
        | (at_builtin; refine wpList_append_own_at _ rfl _ _ 44 rfl w.heap.size 9 j0 (.string ⟨#[]⟩) 1 16 Tryz.underlying44 hj hy0 hy1 hy2 rfl (by decide) _ _ _ rfl (HO.alloc _) ⟨w2.heap.size, 0, none⟩ 1 1 [.string x] rfl rfl (World.news_of_block (heap_alloc_new _ _)) (one1 rfl) (by unfold maxLen; omega) (by omega) (by simp; omega) ?_; intro v' w8 hown' hgrow _ hblk; have hS8 := (hS2.alloc _).append hown' hgrow hblk; clear hown' hgrow hblk))
      go_roundw
      case rel =>
        refine ⟨k + 1, hlt, by go_num, ?_⟩
        rw [List.take_succ_eq_append_getElem hka]
        unfold txV
        rw [List.map_append, List.map_singleton, HX.out]
        exact hS8
      case measure => simp [intOf]; omega
    · obtain rfl : k = n := by omega
      have ho : wr.ownsRow w.heap.size 9 1 u5 k (txV (ats.take k)) := hS.head
      rw [List.take_of_length_le (by rw [HN.out]; exact Nat.le_refl _)] at ho
      obtain ⟨bk, cap, hv, hcap, _⟩ := ho.form (by omega)
      subst hv
      have hcl : ∀ (j : Nat) x, (ats.map textF)[j]? = some x → wr.cell? ⟨bk, 0 + j, none⟩ = some (.string x) := fun j x hx => by
        obtain ⟨hjl, hjx⟩ := List.getElem?_eq_some_iff.1 hx
        rw [List.length_map, HN.out] at hjl
        rw [Nat.zero_add, ho.cellAt j (by omega)]
        unfold txV
        rw [List.getElem?_map] at hx ⊢
        cases hg : ats[j]? with
        | none => rw [hg] at hx; cases hx
        | some y => rw [hg] at hx; simp at hx; simp [hx]
      have HC := Lib.hid (HJ.out wr bk cap (own_cap ho).1 (ho.lt bk rfl).2 hcl)
      clear ho hcl
      go_wp2_with fail
      refine HC.out.mono ?_
      rintro e w2 ⟨rfl, hb2⟩
      go_wp2_with fail
      go_ret
      exact ⟨rfl, below_call hS.below hb2 (Nat.le_refl _)⟩

def litT : ByteArray := ⟨#[40, 97, 61, 120, 41, 111, 114, 32, 104, 97, 115, 32, 98]⟩
def noNum (_ : ByteArray) : Int × Bool := (0, false)
def litA : List Atm := [⟨⟨#[61]⟩, ⟨#[97]⟩, ⟨#[120]⟩, 0⟩, ⟨⟨#[104, 97, 115]⟩, ⟨#[98]⟩, ⟨#[]⟩, 0⟩]
theorem lit_noTime : NoTime litT := by
  intro i
  by_cases h : i < 13
  · have : (List.range 13).all (fun i => !((litT.extract i (tokE litT i)).data.toList == sTime.data.toList)) = true := by decide +kernel
    rw [List.all_eq_true] at this
    have := this i (by simpa using h)
    intro e
    rw [e] at this
    simp at this
  · intro e
    have h1 : (litT.extract i (tokE litT i)).size = 4 := by rw [e]; rfl
    rw [ByteArray.size_extract] at h1
    have h2 : litT.size = 13 := rfl
    omega
theorem lit_parse : (parseT noNum litT).1 = .node 1 (litA.map leaf) atm0 := by kernel_rfl
theorem lit_parseE : parseE noNum litT = (0, 0) := by decide +kernel
theorem lit_text : orText litA = ⟨#[97, 32, 61, 32, 120, 32, 111, 114, 32, 104, 97, 115, 32, 98]⟩ := by kernel_rfl
set_option maxRecDepth 100000 in
theorem tidyLit_calls (w : World) : Calls Tryz.prog 19 #[.string ⟨#[40, 97, 61, 120, 41, 111, 114, 32, 104, 97, 115, 32, 98]⟩] w (BRet (.tuple #[.string ⟨#[97, 32, 61, 32, 120, 32, 111, 114, 32, 104, 97, 115, 32, 98]⟩, .int .i64 0, .int .i64 0]) w) := by
  have HP := Lib.hid (parse_calls noNum litT w (by decide) lit_noTime)
  go_enter Tryz.func19, Tryz.ntmps19
  go_wp2_with fail
  refine HP.out.mono ?_
  rintro e w2 ⟨v, rfl, hb2, hN⟩
  rw [lit_parseE] at hN
  obtain ⟨g, rfl, hnode⟩ := hN rfl
  rw [lit_parse] at hnode
  rw [lit_parseE]
  have HT := Lib.hid (tidyOr_calls litA g _ _ w2 hnode (Nat.le_refl _) (by decide) (by decide) (by decide) (by decide))
  rw [lit_text] at HT
  clear hN hnode
  go_wp2_with fail
  refine HT.out.mono ?_
  rintro e w3 ⟨rfl, hb3⟩
  go_wp2_with fail
  go_ret3
  exact ⟨rfl, below_call hb2 hb3 (Nat.le_refl _)⟩
end Go.Proofs.YtipbhgefcmekpaaGreatDoor
