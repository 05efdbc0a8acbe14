/-
  The parser of rules, on: many by a contract, at each of its two parts. (Printed by gen_rule4.py.)
-/
import Derived.Test.YtapgnaimbgjcnaaGreatDoorZRule3
import Derived.Test.YtapgnaimbgjcnaaGreatDoorZSlot3
import Derived.Deep.DeepCutAuto
import Derived.Deep.RegionLaw
import Derived.Deep.CutBlock
namespace Go.Proofs.YtapgnaimbgjcnaaGreatDoor
open Go Go.RowKit
theorem info_ptr : (Tryz.prog.info? 188).map (fun i => (i.zero, i.size, i.bytes)) = some (some (.pointer none), 1, 8) := by kernel_rfl
theorem joinF_many (kind : Int) (ks : List Nd) (h : ks.length ≠ 1) : joinF kind ks = .node kind ks atm0 := by
 match ks, h with
 | [], _ => rfl
 | [_], h => exact absurd rfl h
 | _ :: _ :: _, _ => rfl
theorem Px.node_at {w W : World} {b : Nat} {l : List Rsc} {xs : List Nl} (h : Px w b W l) (i : Nat) (hi : l[i]? = some (rAll rNode xs)) (x : Nl) (hx : x ∈ xs) : NodeAt W w.heap.size W.heap.size x.g x.t := by
 have h1 : NodeAt W x.lo x.hi x.g x.t := (h.nth i hi : ∀ a ∈ xs, (rNode a).P W) x hx
 have h2 := h1.lt
 have h3 := h.ge i hi (g := x.lo) ⟨x, hx, Nat.le_refl _, by omega⟩
 have h4 := h.ge i hi (g := x.hi - 1) ⟨x, hx, by omega, by omega⟩
 exact h1.wide h3.1 (by omega)
theorem loop_stop (s word : ByteArray) (part : PSt → Nd × PSt) (m : Nat) (ks : List Nd) (t : PSt) (h : ¬ (t.bad = false ∧ t.tok = word)) : loopF s word part m ks t = (ks, t) := by
 cases m with
 | zero => rfl
 | succ m => rw [loopF, if_neg h]
theorem loop_step (s word : ByteArray) (part : PSt → Nd × PSt) (m : Nat) (ks : List Nd) (t : PSt) (h : t.bad = false ∧ t.tok = word) : loopF s word part (m + 1) ks t = loopF s word part m (ks ++ [(part (nextF s t)).1]) (part (nextF s t)).2 := by
 rw [loopF, if_pos h]
theorem PAt.keep {W W' : World} {b : Nat} {s : ByteArray} {t : PSt} (h : PAt W b s t) (k : W'.heap[b]? = W.heap[b]?) : PAt W' b s t := k.trans h
theorem Px.keepB {w W W' : World} {b base : Nat} {e : TypeId} {size n : Nat} {v : Value} {xs : List Value} {l : List Rsc} (h : Px w b W (rOwn base e size v n xs :: l)) (hg : W.grownBy W' v.ownBlock) : W'.heap[b]? = W.heap[b]? :=
 hg.block b h.lt (fun e => by have h1 := (h.ge 0 rfl (g := b) e.symm).1; have := h.hb; omega)
theorem Px.nodeC_cells {w W : World} {b gn : Nat} {l : List Rsc} {kind : Int} {v : Value} (h : Px w b W l) (i : Nat) (hi : l[i]? = some (rBlk gn 243 #[.int .i64 kind, v, .string ⟨#[]⟩, .string ⟨#[]⟩, .string ⟨#[]⟩, .int .i64 0])) : W.cell? ⟨gn, 1, none⟩ = some v ∧ W.frozen? ⟨gn, 1, none⟩ = false :=
 ⟨Blk.cell (h.nth i hi) 1, Blk.frozen (h.nth i hi) 1⟩
theorem one1p (g : Nat) : ∀ u ∈ [ptrV g], u.oneCell' = true := by
 intro u hu
 simp at hu
 subst hu
 rfl
def gsV (xs : List Nl) : List Value := xs.map fun x => ptrV x.g
set_option maxRecDepth 100000 in
set_option maxHeartbeats 2000000 in
theorem many1_calls (part : PSt → Nd × PSt) (gp gd : Nat) (b : Nat) (s : ByteArray) (t : PSt) (kind : Int) (word : ByteArray) (lo : Nat) (w : World) (h : PAt w b s t) (hok : POk s t) (hs : s.size ≤ 100000) (hbad : t.bad = false) (hlo : lo ≤ t.at_) (hw : 1 ≤ word.size)
 (HP : ∀ W t, Bx w.heap.size b w W → PAt W b s t → POk s t → t.bad = false → lo ≤ t.at_ → Calls Tryz.prog 246 #[.pointer (some ⟨gp, 0, none⟩), .pointer (some ⟨gd, 0, none⟩)] W (NodS b s (part t) t.at_ W)) :
 Calls Tryz.prog 245 #[.pointer (some ⟨b, 0, none⟩), .int .i64 kind, .string word, .func (.func 246) #[] #[.pointer (some ⟨gp, 0, none⟩), .pointer (some ⟨gd, 0, none⟩)]] w (NodS b s (manyF s kind word part t) t.at_ w) := by
 obtain ⟨i0, hi, hz0, hz1, hz2⟩ := info_parts info_ptr
 have hb := h.lt
 have hS0 := (Px.start w hb).allNil rNode rNode_ok
 obtain ⟨nd1, hnd1⟩ : ∃ nd1, (part t).1 = nd1 := ⟨_, rfl⟩
 obtain ⟨t1, ht1⟩ : ∃ t1, (part t).2 = t1 := ⟨_, rfl⟩
 obtain ⟨R, hR⟩ : ∃ R, loopF s word part (s.size + 1) [nd1] t1 = R := ⟨_, rfl⟩
 have HM : Hid (manyF s kind word part t = (joinF kind R.1, R.2)) := by unfold manyF; rw [hnd1, ht1, hR]; exact Lib.hid rfl
 have HP0 := Lib.hid (HP w t (Bx.refl _ _ _) h hok hbad hlo)
 have HPP := Lib.hid HP
 have HRR := Lib.hid hR
 have HN1 := Lib.hid hnd1
 have HT1 := Lib.hid ht1
 rw [HM.out]
 clear HP hR hnd1 ht1 hbad
 go_enter Tryz.func245, Tryz.ntmps245
 go_wp2_with fail
 refine HP0.out.mono ?_
 rintro e w2 ⟨g1, rfl, N1, P2, B2, ok2, le2⟩
 rw [HN1.out] at N1
 rw [HT1.out] at P2 ok2 le2
 have hS2 := (hS0.node B2 N1).snoc rNode_ok
 have hS3 := hS2.addRow #[ptrV g1] 188 1 1 rfl (by decide)
 have hS4 := hS3.add #[.int .i64 kind, .slice (some ⟨w2.heap.size, 0, none⟩) 1 1, .string ⟨#[]⟩, .string ⟨#[]⟩, .string ⟨#[]⟩, .int .i64 0] 243
 have P3 := (P2.below ((Below.refl _ _).alloc (Nat.le_refl _) (.cells #[ptrV g1] 188)))
 have P4 := P3.below ((Below.refl _ _).alloc (Nat.le_refl _) (.cells #[.int .i64 kind, .slice (some ⟨w2.heap.size, 0, none⟩) 1 1, .string ⟨#[]⟩, .string ⟨#[]⟩, .string ⟨#[]⟩, .int .i64 0] 243))
 obtain ⟨gn, hgn⟩ : ∃ gn, w2.heap.size + 1 = gn := ⟨_, rfl⟩
 have hgs : (w2.alloc (.cells #[ptrV g1] 188)).heap.size = gn := by simp [← hgn]
 rw [hgs] at hS4
 have hgw : w.heap.size ≤ gn := by have := hS2.size; omega
 clear hS0 hS2 hS3 P3 P2 B2 N1 HP0
 have hS5 : Px w b _ [rBlk gn 243 #[.int .i64 kind, .slice (some ⟨w2.heap.size, 0, none⟩) 1 1, .string ⟨#[]⟩, .string ⟨#[]⟩, .string ⟨#[]⟩, .int .i64 0], rOwn w.heap.size 188 1 (.slice (some ⟨w2.heap.size, 0, none⟩) 1 1) 1 (gsV [⟨w.heap.size, w2.heap.size, g1, nd1⟩]), rAll rNode [⟨w.heap.size, w2.heap.size, g1, nd1⟩]] := hS4
 clear hS4
 go_upto_block 0 with (fail)
 go_cut [] (fun W => ∃ (xs : List Nl) (A : Option Addr) (c : Nat) (t' : PSt), (xs.map (fun x => x.t), t') = R ∧ POk s t' ∧ t.at_ ≤ t'.at_ ∧ PAt W b s t' ∧ 1 ≤ xs.length ∧ xs.length ≤ s.size + 1 ∧ Px w b W [rBlk gn 243 #[.int .i64 kind, .slice A xs.length c, .string ⟨#[]⟩, .string ⟨#[]⟩, .string ⟨#[]⟩, .int .i64 0], rOwn w.heap.size 188 1 (.slice A xs.length c) xs.length (gsV xs), rAll rNode xs])
 case first =>
  go_wp2_with fail
  go_loopw [] (fun wr => ∃ (xs : List Nl) (A : Option Addr) (c : Nat) (t' : PSt) (m : Nat), Hid (loopF s word part m (xs.map (fun x => x.t)) t' = R) ∧ s.size - t'.at_ < m ∧ POk s t' ∧ t.at_ ≤ t'.at_ ∧ PAt wr b s t' ∧ 1 ≤ xs.length ∧ xs.length ≤ t'.at_ + 1 ∧ Px w b wr [rBlk gn 243 #[.int .i64 kind, .slice A xs.length c, .string ⟨#[]⟩, .string ⟨#[]⟩, .string ⟨#[]⟩, .int .i64 0], rOwn w.heap.size 188 1 (.slice A xs.length c) xs.length (gsV xs), rAll rNode xs]) (fun wr => s.size + 1 - atCell wr b)
  case atStart => exact ⟨[⟨w.heap.size, w2.heap.size, g1, nd1⟩], _, _, t1, s.size + 1, HRR, by omega, ok2, le2, P4, Nat.le_refl _, by simp, hS5⟩
  case round =>
   clear hS5 P4 ok2 le2
   obtain ⟨xs, A, c, t', m, HL, hm, ok3, le3, P, hx1, hx2, hS⟩ := hrel
   obtain ⟨n, hn⟩ : ∃ n, xs.length = n := ⟨_, rfl⟩
   rw [hn] at hS hx1 hx2
   have HN := Lib.hid hn
   obtain ⟨c0, c1, c2, c3, c4, f1, f2, f3, f4⟩ := P.cells
   obtain ⟨bd, hbd⟩ : ∃ bd, t'.bad = bd := ⟨_, rfl⟩
   obtain ⟨T, hT⟩ : ∃ T, t'.tok = T := ⟨_, rfl⟩
   rw [hbd] at c4
   rw [hT] at c2
   have ha3 := ok3.at_
   rw [hT] at ha3
   have HPa := Lib.hid P.at_cell
   cases bd
   · by_cases hTw : T = word
     · have e1 : (T.toList == word.toList) = true := (tokB T _ word (Lib.toList_data word).symm).trans (decide_eq_true hTw)
       obtain ⟨t2, ht2⟩ : ∃ t2, nextF s t' = t2 := ⟨_, rfl⟩
       have htk : takeF s t' true = t2 := by unfold takeF; rw [hbd]; simpa using ht2
       have ok4 : POk s t2 := by rw [← ht2]; exact ok3.next
       have bad4 : t2.bad = false := by rw [← ht2]; exact hbd
       have ge4 : t'.at_ + T.size ≤ t2.at_ := by rw [← ht2, ← hT]; exact next_ge
       have hTs : 1 ≤ T.size := by rw [hTw]; exact hw
       obtain ⟨m', rfl⟩ : ∃ m', m = m' + 1 := ⟨m - 1, by omega⟩
       obtain ⟨nd, hnd⟩ : ∃ nd, (part t2).1 = nd := ⟨_, rfl⟩
       obtain ⟨t3, ht3⟩ : ∃ t3, (part t2).2 = t3 := ⟨_, rfl⟩
       have HLS : Hid (loopF s word part m' (xs.map (fun x => x.t) ++ [nd]) t3 = R) := by
        rw [← hnd, ← ht3, ← ht2, ← loop_step s word part m' _ t' ⟨hbd, hT.trans hTw⟩]
        exact HL
       have HTK := Lib.hid (take_calls_ b s t' true wr P ok3 hs)
       rw [htk] at HTK
       have HND := Lib.hid hnd
       have HT3 := Lib.hid ht3
       have HBA := Lib.hid bad4
       clear hbd hT hTw ht2 htk hnd ht3 bad4 hn HL
       go_wp2_with fail
       refine HTK.out.mono ?_
       rintro e w3 ⟨rfl, P3, B3⟩
       have hS3 := hS.call B3
       obtain ⟨k1, k2⟩ := hS3.nodeC_cells 0 rfl
       have HC1 : Hid (Calls Tryz.prog 246 #[.pointer (some ⟨gp, 0, none⟩), .pointer (some ⟨gd, 0, none⟩)] w3.drew (fun e w4 => ∃ x4 : Nl, e = .returned (ptrV x4.g) ∧ x4.t = nd ∧ w.heap.size ≤ w4.heap.size ∧ PAt w4 b s t3 ∧ POk s t3 ∧ t2.at_ ≤ t3.at_ ∧ Px w b w4 [rOwn w.heap.size 188 1 (.slice A n c) n (gsV xs), rAll rNode (xs ++ [x4]), rBlk gn 243 #[.int .i64 kind, .slice A n c, .string ⟨#[]⟩, .string ⟨#[]⟩, .string ⟨#[]⟩, .int .i64 0]])) := by
        refine (HPP.out w3.drew t2 hS3.drew.bx P3 ok4 HBA.out (by omega)).mono ?_
        rintro e w4 ⟨g4, rfl, N4, P4, B4, ok5, le5⟩
        rw [HND.out] at N4
        rw [HT3.out] at P4 ok5 le5
        have hS4 := ((((hS3.drew.node B4 N4).front 3 rfl rfl).front 1 rfl rfl).snoc rNode_ok).front 2 rfl rfl
        exact ⟨_, rfl, rfl, hS4.size, P4, ok5, le5, hS4⟩
       have HG : Hid (∀ W l (i : Nat), Px w b W l → l[i]? = some (rBlk gn 243 #[.int .i64 kind, .slice A n c, .string ⟨#[]⟩, .string ⟨#[]⟩, .string ⟨#[]⟩, .int .i64 0]) → W.cell? ⟨gn, 1, none⟩ = some (.slice A n c) ∧ W.frozen? ⟨gn, 1, none⟩ = false) := fun W l i h hl => h.nodeC_cells i hl
       have HLT : Hid (∀ W l (i : Nat), Px w b W l → l[i]? = some (rBlk gn 243 #[.int .i64 kind, .slice A n c, .string ⟨#[]⟩, .string ⟨#[]⟩, .string ⟨#[]⟩, .int .i64 0]) → gn < W.heap.size) := fun W l i h hl => (h.ge i hl (g := gn) rfl).2
       have h63 : n + 1 ≤ maxLen := by unfold maxLen; omega
       have hby : (n + 1) * 8 ≤ 140737488355328 := by omega
       clear hS c0 c1 c2 c3 c4 f1 f2 f3 f4 e1 HTK
       go_wp2_with fail
       go_region_law (first
        | (go_simp; go_at_call 246; ((with_reducible refine HC1.out.mono ?_); rintro e w4 ⟨x4, rfl, hx4, hsz4, P4, ok5, le5, hS5⟩; obtain ⟨k1, k2⟩ := HG.out _ _ 2 hS5 rfl; have hlt4 := (HLT.out _ _ 2 hS5 rfl)))
        | (refine step_append_lies _ (by rfl) _ _ _ (by rfl) w.heap.size 188 i0 (.pointer none) 1 8 Tryz.underlying239 hi hz0 hz1 hz2 rfl (by omega) (.slice A n c) n (gsV xs) (by rfl) ((hS5.alloc _).head) ⟨w4.heap.size, 0, none⟩ 1 1 [ptrV x4.g] (by rfl) (by rfl) (news_new _ _ _ _ rfl) (one1p _) (by omega) h63 hby (base1 hsz4 _) _ rfl ?_; intro g2 cap2 w5 hown' hgrow hblk hlt5; have hV := (hS5.alloc _).append hown' hgrow (own_lies hblk); have P5 := (P4.below ((Below.refl _ _).alloc (Nat.le_refl _) _)).keep ((hS5.alloc _).keepB hgrow); obtain ⟨k1, k2⟩ := HG.out _ _ 2 hV rfl; clear hown' hgrow hblk))
       all_goals
        have hV2 := (hV.front 2 rfl rfl).set_ 1 (.slice (some ⟨g2, 0, none⟩) (n + 1) cap2)
        have hbn : b ≠ gn := by have := hS3.hb; omega
        have P6 := P5.far hbn 1 (.slice (some ⟨g2, 0, none⟩) (n + 1) cap2)
        have HA6 := Lib.hid P6.at_cell
        have hln : (xs ++ [x4]).length = n + 1 := by rw [List.length_append, HN.out]; rfl
        go_wp2_with fail
        go_roundw
        case rel =>
         refine ⟨xs ++ [x4], some ⟨g2, 0, none⟩, cap2, t3, m', ?_, by omega, ok5, by omega, P6, by omega, by omega, ?_⟩
         · rw [List.map_append, List.map_singleton, hx4]; exact HLS
         · rw [hln]
           have hg : gsV (xs ++ [x4]) = gsV xs ++ [ptrV x4.g] := by unfold gsV; rw [List.map_append]; rfl
           rw [hg]
           exact hV2
        case measure =>
         have h1 := HA6.out
         have h2 := HPa.out
         have h3 := ok5.at_
         rw [h1, h2]
         omega
     · have e1 : (T.toList == word.toList) = false := (tokB T _ word (Lib.toList_data word).symm).trans (decide_eq_false hTw)
       have HE : Hid ((xs.map (fun x => x.t), t') = R) := by rw [← HL.out, loop_stop _ _ _ _ _ _ (fun h => hTw (hT.symm.trans h.2))]; exact Lib.hid rfl
       clear hbd hT hTw hn
       go_wp2_with fail
       go_meet
       exact ⟨xs, A, c, t', HE, ok3, le3, P, by rw [HN.out]; exact hx1, by rw [HN.out]; omega, by rw [HN.out]; exact hS⟩
   · have HE : Hid ((xs.map (fun x => x.t), t') = R) := by rw [← HL.out, loop_stop _ _ _ _ _ _ (fun h => by rw [hbd] at h; exact absurd h.1 (by decide))]; exact Lib.hid rfl
     clear hbd hT hn
     go_wp2_with fail
     go_meet
     exact ⟨xs, A, c, t', HE, ok3, le3, P, by rw [HN.out]; exact hx1, by rw [HN.out]; omega, by rw [HN.out]; exact hS⟩
 case rest =>
  obtain ⟨xs, A, c, t', hRx, ok3, le3, P, hx1, hx2, hS⟩ := hcut
  clear P4 hS5
  have HRX := Lib.hid hRx
  clear hRx
  obtain ⟨n, hn⟩ : ∃ n, xs.length = n := ⟨_, rfl⟩
  rw [hn] at hS hx1 hx2
  have HN := Lib.hid hn
  obtain ⟨k1, k2⟩ := hS.nodeC_cells 0 rfl
  have hrow : wc.ownsRow w.heap.size 188 1 (.slice A n c) n (gsV xs) := hS.nth 1 rfl
  clear hn
  by_cases h1 : n = 1
  · subst h1
    obtain ⟨gi, ci, hv, _⟩ := hrow.form (by omega)
    injection hv with hAI _ hcI
    subst hAI hcI
    have hlx : 0 < xs.length := by rw [HN.out]; omega
    have kc : wc.cell? ⟨gi, 0, none⟩ = some (ptrV xs[0].g) := by rw [hrow.cellAt 0 (by omega)]; unfold gsV; rw [List.getElem?_map, List.getElem?_eq_getElem hlx]; rfl
    have hnode := hS.node_at 2 rfl xs[0] (List.getElem_mem hlx)
    have HF : Hid (joinF kind R.1 = xs[0].t ∧ R.2 = t') := by
     rw [← HRX.out]
     obtain ⟨x0, hx0⟩ : ∃ x0, xs = [x0] := List.length_eq_one_iff.1 HN.out
     subst hx0
     exact Lib.hid ⟨rfl, rfl⟩
    go_wp2_with fail
    go_ret
    exact ⟨xs[0].g, rfl, by rw [HF.out.1]; exact hnode, by rw [HF.out.2]; exact P, hS.bx, by rw [HF.out.2]; exact ok3, by rw [HF.out.2]; exact le3⟩
  · have hne : ((n : Int) == 1) = false := by simp; omega
    have HF : Hid (joinF kind R.1 = .node kind (xs.map (fun x => x.t)) atm0 ∧ R.2 = t') := by
     rw [← HRX.out]
     exact Lib.hid ⟨joinF_many _ _ (by rw [List.length_map, HN.out]; exact h1), rfl⟩
    have hnode : NodeAt wc w.heap.size wc.heap.size gn (.node kind (xs.map (fun x => x.t)) atm0) := by
     have hgn2 := hS.ge 0 rfl (g := gn) rfl
     refine .mk gn kind atm0 (.slice A n c) (xs.map (fun x => x.g)) _ hgn2 (hS.nth 0 rfl) ?_ (fun k e => (hS.ge 1 rfl (g := k) e).2) (by simp) (fun i hi_ hk => ?_)
     · rw [List.length_map, HN.out, List.map_map]
       exact hrow
     · have hix : i < xs.length := by simpa using hk
       have := hS.node_at 2 rfl xs[i] (List.getElem_mem hix)
       simpa using this
    go_wp2_with fail
    go_ret
    exact ⟨gn, rfl, by rw [HF.out.1]; exact hnode, by rw [HF.out.2]; exact P, hS.bx, by rw [HF.out.2]; exact ok3, by rw [HF.out.2]; exact le3⟩
set_option maxRecDepth 100000 in
set_option maxHeartbeats 2000000 in
theorem many2_calls (part : PSt → Nd × PSt) (gp gd : Nat) (b : Nat) (s : ByteArray) (t : PSt) (kind : Int) (word : ByteArray) (lo : Nat) (w : World) (h : PAt w b s t) (hok : POk s t) (hs : s.size ≤ 100000) (hbad : t.bad = false) (hlo : lo ≤ t.at_) (hw : 1 ≤ word.size)
 (HP : ∀ W t, Bx w.heap.size b w W → PAt W b s t → POk s t → t.bad = false → lo ≤ t.at_ → Calls Tryz.prog 247 #[.pointer (some ⟨gp, 0, none⟩), .pointer (some ⟨gd, 0, none⟩)] W (NodS b s (part t) t.at_ W)) :
 Calls Tryz.prog 245 #[.pointer (some ⟨b, 0, none⟩), .int .i64 kind, .string word, .func (.func 247) #[] #[.pointer (some ⟨gp, 0, none⟩), .pointer (some ⟨gd, 0, none⟩)]] w (NodS b s (manyF s kind word part t) t.at_ w) := by
 obtain ⟨i0, hi, hz0, hz1, hz2⟩ := info_parts info_ptr
 have hb := h.lt
 have hS0 := (Px.start w hb).allNil rNode rNode_ok
 obtain ⟨nd1, hnd1⟩ : ∃ nd1, (part t).1 = nd1 := ⟨_, rfl⟩
 obtain ⟨t1, ht1⟩ : ∃ t1, (part t).2 = t1 := ⟨_, rfl⟩
 obtain ⟨R, hR⟩ : ∃ R, loopF s word part (s.size + 1) [nd1] t1 = R := ⟨_, rfl⟩
 have HM : Hid (manyF s kind word part t = (joinF kind R.1, R.2)) := by unfold manyF; rw [hnd1, ht1, hR]; exact Lib.hid rfl
 have HP0 := Lib.hid (HP w t (Bx.refl _ _ _) h hok hbad hlo)
 have HPP := Lib.hid HP
 have HRR := Lib.hid hR
 have HN1 := Lib.hid hnd1
 have HT1 := Lib.hid ht1
 rw [HM.out]
 clear HP hR hnd1 ht1 hbad
 go_enter Tryz.func245, Tryz.ntmps245
 go_wp2_with fail
 refine HP0.out.mono ?_
 rintro e w2 ⟨g1, rfl, N1, P2, B2, ok2, le2⟩
 rw [HN1.out] at N1
 rw [HT1.out] at P2 ok2 le2
 have hS2 := (hS0.node B2 N1).snoc rNode_ok
 have hS3 := hS2.addRow #[ptrV g1] 188 1 1 rfl (by decide)
 have hS4 := hS3.add #[.int .i64 kind, .slice (some ⟨w2.heap.size, 0, none⟩) 1 1, .string ⟨#[]⟩, .string ⟨#[]⟩, .string ⟨#[]⟩, .int .i64 0] 243
 have P3 := (P2.below ((Below.refl _ _).alloc (Nat.le_refl _) (.cells #[ptrV g1] 188)))
 have P4 := P3.below ((Below.refl _ _).alloc (Nat.le_refl _) (.cells #[.int .i64 kind, .slice (some ⟨w2.heap.size, 0, none⟩) 1 1, .string ⟨#[]⟩, .string ⟨#[]⟩, .string ⟨#[]⟩, .int .i64 0] 243))
 obtain ⟨gn, hgn⟩ : ∃ gn, w2.heap.size + 1 = gn := ⟨_, rfl⟩
 have hgs : (w2.alloc (.cells #[ptrV g1] 188)).heap.size = gn := by simp [← hgn]
 rw [hgs] at hS4
 have hgw : w.heap.size ≤ gn := by have := hS2.size; omega
 clear hS0 hS2 hS3 P3 P2 B2 N1 HP0
 have hS5 : Px w b _ [rBlk gn 243 #[.int .i64 kind, .slice (some ⟨w2.heap.size, 0, none⟩) 1 1, .string ⟨#[]⟩, .string ⟨#[]⟩, .string ⟨#[]⟩, .int .i64 0], rOwn w.heap.size 188 1 (.slice (some ⟨w2.heap.size, 0, none⟩) 1 1) 1 (gsV [⟨w.heap.size, w2.heap.size, g1, nd1⟩]), rAll rNode [⟨w.heap.size, w2.heap.size, g1, nd1⟩]] := hS4
 clear hS4
 go_upto_block 0 with (fail)
 go_cut [] (fun W => ∃ (xs : List Nl) (A : Option Addr) (c : Nat) (t' : PSt), (xs.map (fun x => x.t), t') = R ∧ POk s t' ∧ t.at_ ≤ t'.at_ ∧ PAt W b s t' ∧ 1 ≤ xs.length ∧ xs.length ≤ s.size + 1 ∧ Px w b W [rBlk gn 243 #[.int .i64 kind, .slice A xs.length c, .string ⟨#[]⟩, .string ⟨#[]⟩, .string ⟨#[]⟩, .int .i64 0], rOwn w.heap.size 188 1 (.slice A xs.length c) xs.length (gsV xs), rAll rNode xs])
 case first =>
  go_wp2_with fail
  go_loopw [] (fun wr => ∃ (xs : List Nl) (A : Option Addr) (c : Nat) (t' : PSt) (m : Nat), Hid (loopF s word part m (xs.map (fun x => x.t)) t' = R) ∧ s.size - t'.at_ < m ∧ POk s t' ∧ t.at_ ≤ t'.at_ ∧ PAt wr b s t' ∧ 1 ≤ xs.length ∧ xs.length ≤ t'.at_ + 1 ∧ Px w b wr [rBlk gn 243 #[.int .i64 kind, .slice A xs.length c, .string ⟨#[]⟩, .string ⟨#[]⟩, .string ⟨#[]⟩, .int .i64 0], rOwn w.heap.size 188 1 (.slice A xs.length c) xs.length (gsV xs), rAll rNode xs]) (fun wr => s.size + 1 - atCell wr b)
  case atStart => exact ⟨[⟨w.heap.size, w2.heap.size, g1, nd1⟩], _, _, t1, s.size + 1, HRR, by omega, ok2, le2, P4, Nat.le_refl _, by simp, hS5⟩
  case round =>
   clear hS5 P4 ok2 le2
   obtain ⟨xs, A, c, t', m, HL, hm, ok3, le3, P, hx1, hx2, hS⟩ := hrel
   obtain ⟨n, hn⟩ : ∃ n, xs.length = n := ⟨_, rfl⟩
   rw [hn] at hS hx1 hx2
   have HN := Lib.hid hn
   obtain ⟨c0, c1, c2, c3, c4, f1, f2, f3, f4⟩ := P.cells
   obtain ⟨bd, hbd⟩ : ∃ bd, t'.bad = bd := ⟨_, rfl⟩
   obtain ⟨T, hT⟩ : ∃ T, t'.tok = T := ⟨_, rfl⟩
   rw [hbd] at c4
   rw [hT] at c2
   have ha3 := ok3.at_
   rw [hT] at ha3
   have HPa := Lib.hid P.at_cell
   cases bd
   · by_cases hTw : T = word
     · have e1 : (T.toList == word.toList) = true := (tokB T _ word (Lib.toList_data word).symm).trans (decide_eq_true hTw)
       obtain ⟨t2, ht2⟩ : ∃ t2, nextF s t' = t2 := ⟨_, rfl⟩
       have htk : takeF s t' true = t2 := by unfold takeF; rw [hbd]; simpa using ht2
       have ok4 : POk s t2 := by rw [← ht2]; exact ok3.next
       have bad4 : t2.bad = false := by rw [← ht2]; exact hbd
       have ge4 : t'.at_ + T.size ≤ t2.at_ := by rw [← ht2, ← hT]; exact next_ge
       have hTs : 1 ≤ T.size := by rw [hTw]; exact hw
       obtain ⟨m', rfl⟩ : ∃ m', m = m' + 1 := ⟨m - 1, by omega⟩
       obtain ⟨nd, hnd⟩ : ∃ nd, (part t2).1 = nd := ⟨_, rfl⟩
       obtain ⟨t3, ht3⟩ : ∃ t3, (part t2).2 = t3 := ⟨_, rfl⟩
       have HLS : Hid (loopF s word part m' (xs.map (fun x => x.t) ++ [nd]) t3 = R) := by
        rw [← hnd, ← ht3, ← ht2, ← loop_step s word part m' _ t' ⟨hbd, hT.trans hTw⟩]
        exact HL
       have HTK := Lib.hid (take_calls_ b s t' true wr P ok3 hs)
       rw [htk] at HTK
       have HND := Lib.hid hnd
       have HT3 := Lib.hid ht3
       have HBA := Lib.hid bad4
       clear hbd hT hTw ht2 htk hnd ht3 bad4 hn HL
       go_wp2_with fail
       refine HTK.out.mono ?_
       rintro e w3 ⟨rfl, P3, B3⟩
       have hS3 := hS.call B3
       obtain ⟨k1, k2⟩ := hS3.nodeC_cells 0 rfl
       have HC1 : Hid (Calls Tryz.prog 247 #[.pointer (some ⟨gp, 0, none⟩), .pointer (some ⟨gd, 0, none⟩)] w3.drew (fun e w4 => ∃ x4 : Nl, e = .returned (ptrV x4.g) ∧ x4.t = nd ∧ w.heap.size ≤ w4.heap.size ∧ PAt w4 b s t3 ∧ POk s t3 ∧ t2.at_ ≤ t3.at_ ∧ Px w b w4 [rOwn w.heap.size 188 1 (.slice A n c) n (gsV xs), rAll rNode (xs ++ [x4]), rBlk gn 243 #[.int .i64 kind, .slice A n c, .string ⟨#[]⟩, .string ⟨#[]⟩, .string ⟨#[]⟩, .int .i64 0]])) := by
        refine (HPP.out w3.drew t2 hS3.drew.bx P3 ok4 HBA.out (by omega)).mono ?_
        rintro e w4 ⟨g4, rfl, N4, P4, B4, ok5, le5⟩
        rw [HND.out] at N4
        rw [HT3.out] at P4 ok5 le5
        have hS4 := ((((hS3.drew.node B4 N4).front 3 rfl rfl).front 1 rfl rfl).snoc rNode_ok).front 2 rfl rfl
        exact ⟨_, rfl, rfl, hS4.size, P4, ok5, le5, hS4⟩
       have HG : Hid (∀ W l (i : Nat), Px w b W l → l[i]? = some (rBlk gn 243 #[.int .i64 kind, .slice A n c, .string ⟨#[]⟩, .string ⟨#[]⟩, .string ⟨#[]⟩, .int .i64 0]) → W.cell? ⟨gn, 1, none⟩ = some (.slice A n c) ∧ W.frozen? ⟨gn, 1, none⟩ = false) := fun W l i h hl => h.nodeC_cells i hl
       have HLT : Hid (∀ W l (i : Nat), Px w b W l → l[i]? = some (rBlk gn 243 #[.int .i64 kind, .slice A n c, .string ⟨#[]⟩, .string ⟨#[]⟩, .string ⟨#[]⟩, .int .i64 0]) → gn < W.heap.size) := fun W l i h hl => (h.ge i hl (g := gn) rfl).2
       have h63 : n + 1 ≤ maxLen := by unfold maxLen; omega
       have hby : (n + 1) * 8 ≤ 140737488355328 := by omega
       clear hS c0 c1 c2 c3 c4 f1 f2 f3 f4 e1 HTK
       go_wp2_with fail
       go_region_law (first
        | (go_simp; go_at_call 247; ((with_reducible refine HC1.out.mono ?_); rintro e w4 ⟨x4, rfl, hx4, hsz4, P4, ok5, le5, hS5⟩; obtain ⟨k1, k2⟩ := HG.out _ _ 2 hS5 rfl; have hlt4 := (HLT.out _ _ 2 hS5 rfl)))
        | (refine step_append_lies _ (by rfl) _ _ _ (by rfl) w.heap.size 188 i0 (.pointer none) 1 8 Tryz.underlying239 hi hz0 hz1 hz2 rfl (by omega) (.slice A n c) n (gsV xs) (by rfl) ((hS5.alloc _).head) ⟨w4.heap.size, 0, none⟩ 1 1 [ptrV x4.g] (by rfl) (by rfl) (news_new _ _ _ _ rfl) (one1p _) (by omega) h63 hby (base1 hsz4 _) _ rfl ?_; intro g2 cap2 w5 hown' hgrow hblk hlt5; have hV := (hS5.alloc _).append hown' hgrow (own_lies hblk); have P5 := (P4.below ((Below.refl _ _).alloc (Nat.le_refl _) _)).keep ((hS5.alloc _).keepB hgrow); obtain ⟨k1, k2⟩ := HG.out _ _ 2 hV rfl; clear hown' hgrow hblk))
       all_goals
        have hV2 := (hV.front 2 rfl rfl).set_ 1 (.slice (some ⟨g2, 0, none⟩) (n + 1) cap2)
        have hbn : b ≠ gn := by have := hS3.hb; omega
        have P6 := P5.far hbn 1 (.slice (some ⟨g2, 0, none⟩) (n + 1) cap2)
        have HA6 := Lib.hid P6.at_cell
        have hln : (xs ++ [x4]).length = n + 1 := by rw [List.length_append, HN.out]; rfl
        go_wp2_with fail
        go_roundw
        case rel =>
         refine ⟨xs ++ [x4], some ⟨g2, 0, none⟩, cap2, t3, m', ?_, by omega, ok5, by omega, P6, by omega, by omega, ?_⟩
         · rw [List.map_append, List.map_singleton, hx4]; exact HLS
         · rw [hln]
           have hg : gsV (xs ++ [x4]) = gsV xs ++ [ptrV x4.g] := by unfold gsV; rw [List.map_append]; rfl
           rw [hg]
           exact hV2
        case measure =>
         have h1 := HA6.out
         have h2 := HPa.out
         have h3 := ok5.at_
         rw [h1, h2]
         omega
     · have e1 : (T.toList == word.toList) = false := (tokB T _ word (Lib.toList_data word).symm).trans (decide_eq_false hTw)
       have HE : Hid ((xs.map (fun x => x.t), t') = R) := by rw [← HL.out, loop_stop _ _ _ _ _ _ (fun h => hTw (hT.symm.trans h.2))]; exact Lib.hid rfl
       clear hbd hT hTw hn
       go_wp2_with fail
       go_meet
       exact ⟨xs, A, c, t', HE, ok3, le3, P, by rw [HN.out]; exact hx1, by rw [HN.out]; omega, by rw [HN.out]; exact hS⟩
   · have HE : Hid ((xs.map (fun x => x.t), t') = R) := by rw [← HL.out, loop_stop _ _ _ _ _ _ (fun h => by rw [hbd] at h; exact absurd h.1 (by decide))]; exact Lib.hid rfl
     clear hbd hT hn
     go_wp2_with fail
     go_meet
     exact ⟨xs, A, c, t', HE, ok3, le3, P, by rw [HN.out]; exact hx1, by rw [HN.out]; omega, by rw [HN.out]; exact hS⟩
 case rest =>
  obtain ⟨xs, A, c, t', hRx, ok3, le3, P, hx1, hx2, hS⟩ := hcut
  clear P4 hS5
  have HRX := Lib.hid hRx
  clear hRx
  obtain ⟨n, hn⟩ : ∃ n, xs.length = n := ⟨_, rfl⟩
  rw [hn] at hS hx1 hx2
  have HN := Lib.hid hn
  obtain ⟨k1, k2⟩ := hS.nodeC_cells 0 rfl
  have hrow : wc.ownsRow w.heap.size 188 1 (.slice A n c) n (gsV xs) := hS.nth 1 rfl
  clear hn
  by_cases h1 : n = 1
  · subst h1
    obtain ⟨gi, ci, hv, _⟩ := hrow.form (by omega)
    injection hv with hAI _ hcI
    subst hAI hcI
    have hlx : 0 < xs.length := by rw [HN.out]; omega
    have kc : wc.cell? ⟨gi, 0, none⟩ = some (ptrV xs[0].g) := by rw [hrow.cellAt 0 (by omega)]; unfold gsV; rw [List.getElem?_map, List.getElem?_eq_getElem hlx]; rfl
    have hnode := hS.node_at 2 rfl xs[0] (List.getElem_mem hlx)
    have HF : Hid (joinF kind R.1 = xs[0].t ∧ R.2 = t') := by
     rw [← HRX.out]
     obtain ⟨x0, hx0⟩ : ∃ x0, xs = [x0] := List.length_eq_one_iff.1 HN.out
     subst hx0
     exact Lib.hid ⟨rfl, rfl⟩
    go_wp2_with fail
    go_ret
    exact ⟨xs[0].g, rfl, by rw [HF.out.1]; exact hnode, by rw [HF.out.2]; exact P, hS.bx, by rw [HF.out.2]; exact ok3, by rw [HF.out.2]; exact le3⟩
  · have hne : ((n : Int) == 1) = false := by simp; omega
    have HF : Hid (joinF kind R.1 = .node kind (xs.map (fun x => x.t)) atm0 ∧ R.2 = t') := by
     rw [← HRX.out]
     exact Lib.hid ⟨joinF_many _ _ (by rw [List.length_map, HN.out]; exact h1), rfl⟩
    have hnode : NodeAt wc w.heap.size wc.heap.size gn (.node kind (xs.map (fun x => x.t)) atm0) := by
     have hgn2 := hS.ge 0 rfl (g := gn) rfl
     refine .mk gn kind atm0 (.slice A n c) (xs.map (fun x => x.g)) _ hgn2 (hS.nth 0 rfl) ?_ (fun k e => (hS.ge 1 rfl (g := k) e).2) (by simp) (fun i hi_ hk => ?_)
     · rw [List.length_map, HN.out, List.map_map]
       exact hrow
     · have hix : i < xs.length := by simpa using hk
       have := hS.node_at 2 rfl xs[i] (List.getElem_mem hix)
       simpa using this
    go_wp2_with fail
    go_ret
    exact ⟨gn, rfl, by rw [HF.out.1]; exact hnode, by rw [HF.out.2]; exact P, hS.bx, by rw [HF.out.2]; exact ok3, by rw [HF.out.2]; exact le3⟩
end Go.Proofs.YtapgnaimbgjcnaaGreatDoor
