/-
  The parser of rules, on: or, not, parse by contracts, where no token is 'time'. (Was printed by gen_rule5.py; this text is the truth now.)
-/
import Derived.Test.YtapgnaimbgjcnaaGreatDoorZRule4
import Derived.Shelf.Strings.Builder1
import Derived.Shelf.Strings.Builder2
import Derived.Shelf.Strings.OnBuilder
import Derived.Shelf.LaysM
import Derived.Ground.SlsfProg
import Derived.Ground.SlgmProg
import Derived.Test.YtapgnaimbgjcnaaGreatDoorProg
import Derived.Test.YtapgnaimbgjcnaaGreatDoorZSlot3
namespace Go.Proofs.YtapgnaimbgjcnaaGreatDoor
open Go Go.RowKit
theorem Px.node_keep {w W : World} {b : Nat} {l : List Rsc} {x : Nl} (h : Px w b W l) (i : Nat) (hi : l[i]? = some (rNode x)) : NodeAt W w.heap.size W.heap.size x.g x.t := by
 have h1 : NodeAt W x.lo x.hi x.g x.t := h.nth i hi
 have h2 := h1.lt
 have h3 := h.ge i hi (g := x.lo) ⟨Nat.le_refl _, by omega⟩
 have h4 := h.ge i hi (g := x.hi - 1) ⟨by omega, by omega⟩
 exact h1.wide h3.1 (by omega)
def NotC (num : ByteArray → Int × Bool) (b : Nat) (s : ByteArray) (f : Nat) (d : Int) (lo : Nat) : Prop :=
 ∀ W t, PAt W b s t → POk s t → t.bad = false → lo ≤ t.at_ → Calls Tryz.prog 248 #[.pointer (some ⟨b, 0, none⟩), .int .i64 d] W (NodS b s (notF num s f d t) t.at_ W)
theorem NodS.of_below {b : Nat} {s : ByteArray} {r : Nd × PSt} {lo : Nat} {w w1 : World} {e : Ending} {w' : World} (_hb : b < w.heap.size) (k : Below w.heap.size w w1) (h : NodS b s r lo w1 e w') : NodS b s r lo w e w' := by
 obtain ⟨g, he, h1, h2, h3, h4, h5⟩ := h
 exact ⟨g, he, h1.wide k.size (Nat.le_refl _), h2, (Bx.of_below k b).call h3 (Nat.le_refl _), h4, h5⟩
set_option maxRecDepth 100000 in
theorem or11_calls (num : ByteArray → Int × Bool) (gp gd b : Nat) (s : ByteArray) (t : PSt) (f : Nat) (d : Int) (lo : Nat) (w : World) (h : PAt w b s t) (hok : POk s t) (hbad : t.bad = false) (hlo : lo ≤ t.at_)
 (hp : Blk w gp 235 #[.pointer (some ⟨b, 0, none⟩)]) (hd : Blk w gd 3 #[.int .i64 d]) (HN : NotC num b s f d lo) :
 Calls Tryz.prog 247 #[.pointer (some ⟨gp, 0, none⟩), .pointer (some ⟨gd, 0, none⟩)] w (NodS b s (notF num s f d t) t.at_ w) := by
 have HC := Lib.hid (HN w t h hok hbad hlo)
 have k0 := hp.cell 0
 have k1 := hd.cell 0
 clear h hok hbad hlo HN hp hd
 go_enter Tryz.func247, Tryz.ntmps247
 go_wp2_with fail
 refine HC.out.mono ?_
 rintro e w2 ⟨g, rfl, h1, h2, h3, h4, h5⟩
 go_wp2_with fail
 go_ret
 exact ⟨g, rfl, h1, h2, h3, h4, h5⟩
set_option maxRecDepth 100000 in
theorem or1_calls (num : ByteArray → Int × Bool) (gp gd b : Nat) (s : ByteArray) (t : PSt) (f : Nat) (d : Int) (lo : Nat) (w : World) (hs : s.size ≤ 100000) (h : PAt w b s t) (hok : POk s t) (hbad : t.bad = false) (hlo : lo ≤ t.at_)
 (hp : Blk w gp 235 #[.pointer (some ⟨b, 0, none⟩)]) (hd : Blk w gd 3 #[.int .i64 d]) (hpb : gp ≠ b) (hdb : gd ≠ b) (HN : NotC num b s f d lo) :
 Calls Tryz.prog 246 #[.pointer (some ⟨gp, 0, none⟩), .pointer (some ⟨gd, 0, none⟩)] w (NodS b s (manyF s 2 sAnd (notF num s f d) t) t.at_ w) := by
 have HC := Lib.hid (many2_calls (notF num s f d) gp gd b s t 2 sAnd lo w h hok hs hbad hlo (by decide) (fun W t' hW hP hK hB hL => or11_calls num gp gd b s t' f d lo W hP hK hB hL (hp.bx hW hpb) (hd.bx hW hdb) HN))
 have k0 := hp.cell 0
 clear h hok hbad hlo HN hp hd hpb hdb
 go_enter Tryz.func246, Tryz.ntmps246
 go_wp2_with fail
 refine HC.out.mono ?_
 rintro e w2 ⟨g, rfl, h1, h2, h3, h4, h5⟩
 go_wp2_with fail
 go_ret
 exact ⟨g, rfl, h1, h2, h3, h4, h5⟩
set_option maxRecDepth 100000 in
theorem or_calls (num : ByteArray → Int × Bool) (b : Nat) (s : ByteArray) (t : PSt) (f : Nat) (d : Int) (lo : Nat) (w : World) (hs : s.size ≤ 100000) (h : PAt w b s t) (hok : POk s t) (hbad : t.bad = false) (hlo : lo ≤ t.at_) (HN : NotC num b s f d lo) :
 Calls Tryz.prog 198 #[.pointer (some ⟨b, 0, none⟩), .int .i64 d] w (NodS b s (orF num s f d t) t.at_ w) := by
 have hb := h.lt
 have hS := ((Px.start w hb).add #[.pointer (some ⟨b, 0, none⟩)] 235).add #[.int .i64 d] 3
 have hz : (w.alloc (.cells #[.pointer (some ⟨b, 0, none⟩)] 235)).heap.size = w.heap.size + 1 := by simp
 rw [hz] at hS
 have hB : Below w.heap.size w ((w.alloc (.cells #[.pointer (some ⟨b, 0, none⟩)] 235)).alloc (.cells #[.int .i64 d] 3)) := ((Below.refl _ _).alloc (Nat.le_refl _) _).alloc (by simp) _
 have hpb : w.heap.size ≠ b := by omega
 have hdb : w.heap.size + 1 ≠ b := by omega
 have hp := hS.nth 1 rfl
 have hd := hS.nth 0 rfl
 have HC := Lib.hid (many1_calls (manyF s 2 sAnd (notF num s f d)) w.heap.size (w.heap.size + 1) b s t 1 sOr lo _ (h.below hB) hok hs hbad hlo (by decide) (fun W t' hW hP hK hB' hL => or1_calls num w.heap.size (w.heap.size + 1) b s t' f d lo W hs hP hK hB' hL (Blk.bx hp hW hpb) (Blk.bx hd hW hdb) hpb hdb HN))
 clear h hok hbad hlo HN hp hd hpb hdb hS hz
 go_enter Tryz.func198, Tryz.ntmps198
 go_wp2_with fail
 refine HC.out.mono ?_
 intro e w2 hN
 have hN2 : NodS b s (orF num s f d t) t.at_ w e w2 := NodS.of_below hb hB hN
 obtain ⟨g, rfl, h1, h2, h3, h4, h5⟩ := hN2
 clear hN
 go_wp2_with fail
 go_ret
 exact ⟨g, rfl, h1, h2, h3, h4, h5⟩
theorem takeT (s : ByteArray) (t : PSt) (h : t.bad = false) : takeF s t true = nextF s t ∧ (nextF s t).bad = false := by
 unfold takeF
 rw [h]
 exact ⟨by simp, h⟩
theorem nest_keep (d : Int) (t : PSt) : (nestF d t).at_ = t.at_ ∧ (nestF d t).tok = t.tok ∧ (nestF d t).bad = t.bad := by
 unfold nestF
 split <;> exact ⟨rfl, rfl, rfl⟩
set_option maxRecDepth 100000 in
set_option maxHeartbeats 1000000 in
theorem not_calls (num : ByteArray → Int × Bool) (b : Nat) (s : ByteArray) (hs : s.size ≤ 100000) (hn : NoTime s ∨ NumC num) : ∀ (f : Nat) (d : Int) (lo : Nat), 0 ≤ d → d ≤ lo → s.size < lo + f → NotC num b s f d lo
 | 0, d, lo, _, _, hf => fun W t _ hok _ hlo => by
   have := hok.at_
   omega
 | f + 1, d, lo, h0, h1, hf => fun w t h hok hbad hlo => by
   have hb := h.lt
   obtain ⟨n1, n2, n3⟩ := nest_keep d t
   obtain ⟨t0, ht0⟩ : ∃ t0, nestF d t = t0 := ⟨_, rfl⟩
   rw [ht0] at n1 n2 n3
   have hok0 : POk s t0 := by rw [← ht0]; exact hok.nest d
   obtain ⟨k1, k2⟩ := takeT s t0 (n3.trans hbad)
   obtain ⟨t1, ht1⟩ : ∃ t1, nextF s t0 = t1 := ⟨_, rfl⟩
   rw [ht1] at k1 k2
   have hok1 : POk s t1 := by rw [← ht1]; exact hok0.next
   have ge1 : t.at_ + t.tok.size ≤ t1.at_ := by rw [← ht1, ← n1, ← n2]; exact next_ge
   have hat := hok.at_
   have hat1 := hok1.at_
   obtain ⟨T, hT⟩ : ∃ T, t.tok = T := ⟨_, rfl⟩
   rw [hT] at ge1
   have HNE : Hid (∀ W, PAt W b s t → Calls Tryz.prog 278 #[.pointer (some ⟨b, 0, none⟩), .int .i64 d] W (ParS b s t0 (.tuple #[]) W)) := fun W hW => by rw [← ht0]; exact nest_calls_ b s t d W hW
   have HTK : Hid (∀ W, PAt W b s t0 → Calls Tryz.prog 277 #[.pointer (some ⟨b, 0, none⟩), .bool true] W (ParS b s t1 (.string (takeS t0 true)) W)) := fun W hW => by
    have := take_calls_ b s t0 true W hW hok0 hs
    rw [k1] at this
    exact this
   have IH := not_calls num b s hs hn f (d + 1) t1.at_ (by omega)
   obtain ⟨c0, c1, c2, c3, c4, f1, f2, f3, f4⟩ := h.cells
   rw [hT] at c2
   by_cases q1 : t.tok = sNot
   · have hT3 : T.size = 3 := by rw [← hT, q1]; rfl
     have e1 : (T.toList == [110, 111, 116]) = true := (tokB _ [110, 111, 116] sNot rfl).trans (decide_eq_true (hT.symm.trans q1))
     have HC : Hid (∀ W, PAt W b s t1 → Calls Tryz.prog 248 #[.pointer (some ⟨b, 0, none⟩), .int .i64 (d + 1)] W (NodS b s (notF num s f (d + 1) t1) t1.at_ W)) := fun W hW => IH (by omega) (by omega) W t1 hW hok1 k2 (Nat.le_refl _)
     have HR : Hid (notF num s (f + 1) d t = (.node 3 [(notF num s f (d + 1) t1).1] atm0, (notF num s f (d + 1) t1).2)) := by rw [notF, if_pos q1, ht0, k1]; exact Lib.hid rfl
     rw [HR.out]
     obtain ⟨r, hr⟩ : ∃ r, notF num s f (d + 1) t1 = r := ⟨_, rfl⟩
     rw [hr]
     rw [hr] at HC
     clear IH hT q1 ht0 ht1 hr n1 n2 n3 k1 k2 hbad HR
     go_enter Tryz.func248, Tryz.ntmps248
     go_wp2_with fail
     refine (HNE.out _ h).mono ?_
     rintro e w2 ⟨rfl, P2, B2⟩
     go_wp2_with fail
     refine (HTK.out _ P2).mono ?_
     rintro e w3 ⟨rfl, P3, B3⟩
     have hS3 := ((Px.start w hb).call B2).call B3
     go_wp2_with fail
     refine (HC.out _ P3).mono ?_
     rintro e w4 ⟨g, rfl, N4, P4, B4, ok4, le4⟩
     have hS4 := hS3.node B4 N4
     have hS5 := (hS4.addRow #[ptrV g] 188 1 1 rfl (by decide)).add #[.int .i64 3, .slice (some ⟨w4.heap.size, 0, none⟩) 1 1, .string ⟨#[]⟩, .string ⟨#[]⟩, .string ⟨#[]⟩, .int .i64 0] 243
     have P5 := (P4.below ((Below.refl _ _).alloc (Nat.le_refl _) (.cells #[ptrV g] 188))).below ((Below.refl _ _).alloc (Nat.le_refl _) (.cells #[.int .i64 3, .slice (some ⟨w4.heap.size, 0, none⟩) 1 1, .string ⟨#[]⟩, .string ⟨#[]⟩, .string ⟨#[]⟩, .int .i64 0] 243))
     have hgs : (w4.alloc (.cells #[ptrV g] 188)).heap.size = w4.heap.size + 1 := by simp
     rw [hgs] at hS5
     clear c0 c1 c2 c3 c4 f1 f2 f3 f4 e1 hS4 hS3
     go_wp2_with fail
     go_ret
     refine ⟨w4.heap.size + 1, rfl, ?_, P5, hS5.bx, ok4, by show t.at_ ≤ r.2.at_; omega⟩
     refine .mk (w4.heap.size + 1) 3 atm0 (.slice (some ⟨w4.heap.size, 0, none⟩) 1 1) [g] [r.1] (hS5.ge 0 rfl (g := w4.heap.size + 1) rfl) (hS5.nth 0 rfl) (hS5.nth 1 rfl) (fun k e => (hS5.ge 1 rfl (g := k) e).2) rfl (fun i hi_ hk => ?_)
     obtain rfl : i = 0 := by simp at hk; omega
     exact hS5.node_keep 2 rfl
   by_cases q2 : t.tok = sOpen
   · have hT1 : T.size = 1 := by rw [← hT, q2]; rfl
     have e1 : (T.toList == [110, 111, 116]) = false := (tokB _ [110, 111, 116] sNot rfl).trans (decide_eq_false (by rw [← hT]; exact q1))
     have e2 : (T.toList == [40]) = true := (tokB _ [40] sOpen rfl).trans (decide_eq_true (hT.symm.trans q2))
     have HC : Hid (∀ W, PAt W b s t1 → Calls Tryz.prog 198 #[.pointer (some ⟨b, 0, none⟩), .int .i64 (d + 1)] W (NodS b s (orF num s f (d + 1) t1) t1.at_ W)) := fun W hW => or_calls num b s t1 f (d + 1) t1.at_ W hs hW hok1 k2 (Nat.le_refl _) (IH (by omega) (by omega))
     obtain ⟨r, hr⟩ : ∃ r, orF num s f (d + 1) t1 = r := ⟨_, rfl⟩
     obtain ⟨T2, hT2⟩ : ∃ T2, r.2.tok = T2 := ⟨_, rfl⟩
     obtain ⟨q, hq⟩ : ∃ q, decide (T2 = sShut) = q := ⟨_, rfl⟩
     have eq1 : (T2.toList == [41]) = q := (tokB T2 [41] sShut rfl).trans hq
     have HR : Hid (notF num s (f + 1) d t = (r.1, takeF s r.2 q)) := by
      rw [notF, if_neg q1, if_pos q2, ht0, k1]
      have : manyF s 1 sOr (manyF s 2 sAnd (notF num s f (d + 1))) t1 = r := hr
      simp only [this, hT2, hq]
      exact Lib.hid trivial
     rw [HR.out]
     rw [hr] at HC
     have HQ := Lib.hid eq1
     have HT2 := Lib.hid hT2
     clear IH hT q1 q2 ht0 ht1 hr n1 n2 n3 k1 k2 hbad HR hq eq1 hT2
     go_enter Tryz.func248, Tryz.ntmps248
     go_wp2_with fail
     refine (HNE.out _ h).mono ?_
     rintro e w2 ⟨rfl, P2, B2⟩
     go_wp2_with fail
     refine (HTK.out _ P2).mono ?_
     rintro e w3 ⟨rfl, P3, B3⟩
     have hS3 := ((Px.start w hb).call B2).call B3
     go_wp2_with fail
     refine (HC.out _ P3).mono ?_
     rintro e w4 ⟨g, rfl, N4, P4, B4, ok4, le4⟩
     have hS4 := hS3.node B4 N4
     clear c0 c1 c2 c3 c4 f1 f2 f3 f4 e1 e2
     obtain ⟨c0, c1, c2, c3, c4, f1, f2, f3, f4⟩ := P4.cells
     rw [HT2.out] at c2
     go_wp2_with fail
     rw [HQ.out]
     refine (take_calls_ b s r.2 q w4 P4 ok4 hs).mono ?_
     rintro e w5 ⟨rfl, P5, B5⟩
     have hS5 := hS4.call B5
     clear c0 c1 c2 c3 c4 f1 f2 f3 f4
     go_wp2_with fail
     go_ret
     refine ⟨g, rfl, ?_, P5, hS5.bx, ok4.take q, ?_⟩
     · have h1 : NodeAt w5 w3.heap.size w4.heap.size g r.1 := hS5.nth 0 rfl
       exact h1.wide hS3.size B5.size
     · have := take_ge (s := s) (t := r.2) q
       show t.at_ ≤ (takeF s r.2 q).at_
       omega
   · have e1 : (T.toList == [110, 111, 116]) = false := (tokB _ [110, 111, 116] sNot rfl).trans (decide_eq_false (by rw [← hT]; exact q1))
     have e2 : (T.toList == [40]) = false := (tokB _ [40] sOpen rfl).trans (decide_eq_false (by rw [← hT]; exact q2))
     obtain ⟨r, hr⟩ : ∃ r, atomF num s t = r := ⟨_, rfl⟩
     have HC := Lib.hid (atom_calls num b s t w h hok hs (fun e => hn.elim (fun h => absurd e (hok.noTime h)) id))
     have HR : Hid (notF num s (f + 1) d t = (.node 4 [] r.1, r.2)) := by rw [notF, if_neg q1, if_neg q2, hr]; exact Lib.hid rfl
     have HK : Hid (POk s r.2 ∧ t.at_ ≤ r.2.at_) := by rw [← hr]; exact Lib.hid (atom_ok num hok)
     rw [HR.out]
     rw [hr] at HC
     clear IH hT q1 q2 ht0 ht1 hr n1 n2 n3 k1 k2 hbad HR
     go_enter Tryz.func248, Tryz.ntmps248
     go_wp2_with fail
     refine HC.out.mono ?_
     rintro e w2 ⟨rfl, P2, B2⟩
     have hS2 := ((Px.start w hb).call B2).add (nodeC 4 (.slice none 0 0) r.1) 243
     have P3 := P2.below ((Below.refl _ _).alloc (Nat.le_refl _) (.cells (nodeC 4 (.slice none 0 0) r.1) 243))
     clear c0 c1 c2 c3 c4 f1 f2 f3 f4 e1 e2
     unfold atmV
     go_wp2_with fail
     go_ret
     refine ⟨w2.heap.size, rfl, ?_, P3, hS2.bx, HK.out.1, HK.out.2⟩
     exact .mk w2.heap.size 4 r.1 (.slice none 0 0) [] [] (hS2.ge 0 rfl (g := w2.heap.size) rfl) (hS2.nth 0 rfl) (World.ownsRow_nil _ _ _ _) (fun k e => by simp [Value.ownBlock] at e) rfl (fun i hi_ => absurd hi_ (by simp))
def ParseS (num : ByteArray → Int × Bool) (s : ByteArray) (w : World) (e : Ending) (w' : World) : Prop :=
 ∃ v, e = .returned (.tuple #[v, .int .i64 (parseE num s).1, .int .i64 (parseE num s).2]) ∧ Below w.heap.size w w' ∧ ((parseE num s).2 = 0 → ∃ g, v = ptrV g ∧ NodeAt w' w.heap.size w'.heap.size g (parseT num s).1)
set_option maxRecDepth 100000 in
theorem parse_calls (num : ByteArray → Int × Bool) (s : ByteArray) (w : World) (hs : s.size ≤ 100000) (hn : NoTime s ∨ NumC num) :
 Calls Tryz.prog 145 #[.string s] w (ParseS num s w) := by
 by_cases hl : 2000 < s.size
 · have HR : Hid (parseE num s = (0, 2)) := by unfold parseE; rw [if_pos hl]; exact Lib.hid rfl
   go_enter Tryz.func145, Tryz.ntmps145
   go_wp2_with fail
   go_ret3
   exact ⟨.pointer none, by rw [HR.out]; rfl, Below.refl _ _, fun h => by rw [HR.out] at h; simp at h⟩
 · have P0 : PAt (w.alloc (.cells #[.string s, .int .i64 0, .string ⟨#[]⟩, .int .i64 (-1), .bool false] 237)) w.heap.size s ⟨0, ⟨#[]⟩, -1, false⟩ := Blk.new w _ _
   have hB0 : Bx w.heap.size w.heap.size w (w.alloc (.cells #[.string s, .int .i64 0, .string ⟨#[]⟩, .int .i64 (-1), .bool false] 237)) := (Bx.refl _ _ _).alloc (Nat.le_refl _) _
   have HC1 := Lib.hid (next_calls_ w.heap.size s _ _ P0 (pst_ok s) hs)
   have ok1 : POk s (pst0 s) := (pst_ok s).next
   have HC2 : Hid (∀ W, PAt W w.heap.size s (pst0 s) → Calls Tryz.prog 198 #[.pointer (some ⟨w.heap.size, 0, none⟩), .int .i64 0] W (NodS w.heap.size s (parseT num s) (pst0 s).at_ W)) := fun W hW =>
    or_calls num w.heap.size s (pst0 s) (s.size + 1) 0 0 W hs hW ok1 rfl (Nat.zero_le _) (not_calls num w.heap.size s hs hn (s.size + 1) 0 0 (by omega) (by omega) (by omega))
   obtain ⟨r, hr⟩ : ∃ r, parseT num s = r := ⟨_, rfl⟩
   rw [hr] at HC2
   obtain ⟨bd, hbd⟩ : ∃ bd, r.2.bad = bd := ⟨_, rfl⟩
   have HR : Hid (parseE num s = if (bd || decide (r.2.at_ < s.size)) = true then ((r.2.at_ : Int), 9) else if 0 ≤ r.2.deep then (r.2.deep, 2) else (0, 0)) := by unfold parseE; rw [if_neg hl, hr, hbd]; exact Lib.hid rfl
   have HRR := Lib.hid hr
   have HBD := Lib.hid hbd
   clear hr hbd ok1
   go_enter Tryz.func145, Tryz.ntmps145
   go_wp2_with fail
   refine HC1.out.mono ?_
   rintro e w2 ⟨rfl, P2, B2⟩
   have hB2 := hB0.call B2 (Nat.le_refl _)
   go_wp2_with fail
   refine (HC2.out _ P2).mono ?_
   rintro e w3 ⟨g, rfl, N3, P3, B3, ok3, _⟩
   have hB3 := (hB2.call B3 (Nat.le_refl _)).below (Nat.le_refl _)
   have hN3 : NodeAt w3 w.heap.size w3.heap.size g r.1 := N3.wide hB2.size (Nat.le_refl _)
   clear hB0 hB2 HC1 HC2 P0 P2 B2 N3 B3
   obtain ⟨c0, c1, c2, c3, c4, f1, f2, f3, f4⟩ := P3.cells
   rw [HBD.out] at c4
   have hat := ok3.at_
   have hdp := ok3.deep
   clear P3 ok3
   cases bd
   · by_cases h2 : r.2.at_ < s.size
     · have HE : Hid (parseE num s = ((r.2.at_ : Int), 9)) := by rw [HR.out, if_pos (by simp [h2])]; exact Lib.hid rfl
       go_wp2_with fail
       go_quiet (fail)
       go_wp2_with fail
       go_ret3
       exact ⟨.pointer none, by rw [HE.out]; rfl, below_drewN hB3 _, fun h => by rw [HE.out] at h; simp at h⟩
     · by_cases h3 : 0 ≤ r.2.deep
       · have HE : Hid (parseE num s = (r.2.deep, 2)) := by rw [HR.out, if_neg (by simp; omega), if_pos h3]; exact Lib.hid rfl
         go_wp2_with fail
         go_quiet (fail)
         go_wp2_with fail
         go_ret3
         exact ⟨.pointer none, by rw [HE.out]; rfl, below_drewN hB3 _, fun h => by rw [HE.out] at h; simp at h⟩
       · have HE : Hid (parseE num s = (0, 0)) := by rw [HR.out, if_neg (by simp; omega), if_neg h3]; exact Lib.hid rfl
         go_wp2_with fail
         go_ret3
         exact ⟨ptrV g, by rw [HE.out]; rfl, hB3, fun _ => ⟨g, rfl, by rw [HRR.out]; exact hN3⟩⟩
   · have HE : Hid (parseE num s = ((r.2.at_ : Int), 9)) := by rw [HR.out, if_pos (by simp)]; exact Lib.hid rfl
     go_wp2_with fail
     go_quiet (fail)
     go_wp2_with fail
     go_ret3
     exact ⟨.pointer none, by rw [HE.out]; rfl, below_drewN hB3 _, fun h => by rw [HE.out] at h; simp at h⟩
end Go.Proofs.YtapgnaimbgjcnaaGreatDoor
/-
  DERIVED: THE SHELF's CONTRACTS AT THIS DUMP, IN PLAIN WORDS (tools/lay-plain.mjs out of 'TryzShelf.lean', which tools/lay-shelf.mjs wrote): THE SAME DECLARATIONS UNDER THE SAME NAMES: 'import', 'namespace', 'open', 'def', 'theorem' AND NOTHING ELSE: no command of the shelf's: FOR A HAND-IN. Each laying: the table of numbers ('.._ren') and one theorem, a field a fact of the dump's own or the kernel's comparison; each contract: ONE APPLICATION.
-/
namespace Go.Proofs
open Go.Shelf
def Tryz.lays156_ren : Go.Shelf.Ren := ⟨fun | 156 => 177 | 165 => 235 | 166 => 236 | 169 => 237 | 240 => 273 | 241 => 274 | 276 => 287 | 277 => 288 | n => n, fun | 31 => 58 | 9 => 9 | 3 => 3 | 4 => 4 | 0 => 0 | 20 => 20 | 72 => 273 | 76 => 277 | 70 => 271 | 37 => 262 | 75 => 276 | 127 => 303 | 164 => 312 | 5 => 5 | 80 => 191 | n => n, fun | n => n⟩
theorem Tryz.lays156 : Go.Proofs.Lays.n156 Tryz.prog Tryz.lays156_ren := {
 mixed := by kernel_rfl
 f156 := Tryz.func177.trans (congrArg some (by kernel_rfl))
 f165 := Tryz.func235.trans (congrArg some (by kernel_rfl))
 f166 := Tryz.func236.trans (congrArg some (by kernel_rfl))
 f169 := Tryz.func237.trans (congrArg some (by kernel_rfl))
 f240 := Tryz.func273.trans (congrArg some (by kernel_rfl))
 f241 := Tryz.func274.trans (congrArg some (by kernel_rfl))
 f276 := Tryz.func287.trans (congrArg some (by kernel_rfl))
 f277 := Tryz.func288.trans (congrArg some (by kernel_rfl))
 t0 := Tryz.underlying0
 a0 := Tryz.isAgg0
 z0 := Tryz.sizeOf0
 v0 := Tryz.zeroValue0
 t3 := Tryz.underlying3
 a3 := Tryz.isAgg3
 z3 := Tryz.sizeOf3
 v3 := Tryz.zeroValue3
 t4 := Tryz.underlying4
 a4 := Tryz.isAgg4
 z4 := Tryz.sizeOf4
 v4 := Tryz.zeroValue4
 t9 := Tryz.underlying9
 a9 := Tryz.isAgg9
 z9 := Tryz.sizeOf9
 v9 := Tryz.zeroValue9
 t20 := Tryz.underlying20
 a20 := Tryz.isAgg20
 z20 := Tryz.sizeOf20
 v20 := Tryz.zeroValue20
 t31 := Tryz.underlying58
 a31 := Tryz.isAgg58
 z31 := Tryz.sizeOf58
 v31 := Tryz.zeroValue58
 t37 := Tryz.underlying262
 a37 := Tryz.isAgg262
 z37 := Tryz.sizeOf262
 v37 := Tryz.zeroValue262
 t70 := Tryz.underlying271
 a70 := Tryz.isAgg271
 z70 := Tryz.sizeOf271
 v70 := Tryz.zeroValue271
 t72 := Tryz.underlying273
 a72 := Tryz.isAgg273
 z72 := Tryz.sizeOf273
 v72 := Tryz.zeroValue273
 t75 := Tryz.underlying276
 a75 := Tryz.isAgg276
 z75 := Tryz.sizeOf276
 v75 := Tryz.zeroValue276
 t76 := Tryz.underlying277
 a76 := Tryz.isAgg277
 z76 := Tryz.sizeOf277
 v76 := Tryz.zeroValue277
 t127 := Tryz.underlying303
 a127 := Tryz.isAgg303
 z127 := Tryz.sizeOf303
 v127 := Tryz.zeroValue303
 t164 := Tryz.underlying312
 a164 := Tryz.isAgg312
 z164 := Tryz.sizeOf312
 v164 := Tryz.zeroValue312 }
theorem Tryz.Builder_Extra_156 : Builder.Extra Tryz.prog Tryz.lays156_ren := {
 sizeBuilder := by kernel_rfl
 liesBuilder := by kernel_rfl
 t5 := Tryz.underlying5
 a5 := Tryz.isAgg5
 z5 := Tryz.sizeOf5
 v5 := Tryz.zeroValue5
 infoByte := by kernel_rfl
 cellsByte := by kernel_rfl
 sizeByte := by kernel_rfl
 neB5 := by decide }
open Go.RowKit in
theorem Tryz.strings_Join_none (a : Option Addr) (c : Nat) (sep : ByteArray) (w : World) :
 Calls Tryz.prog 177 #[.slice a 0 c, .string sep] w fun e w' => e = .returned (.string ⟨#[]⟩) ∧ w' = w := Any.strings_Join_none Tryz.lays156 Tryz.Builder_Extra_156 a c sep w
open Go.RowKit in
theorem Tryz.strings_Join (bk o c : Nat) (xs : List ByteArray) (sep : ByteArray) (w : World) (hcells : ∀ (j : Nat) x, xs[j]? = some x → w.cell? ⟨bk, o + j, none⟩ = some (.string x)) (hbk : bk < w.heap.size) (hN : xs.length ≤ 140737488355328) (hcap : xs.length ≤ c) (hlen : (Lib.join (xs.map (·.data.toList)) sep.data.toList).length ≤ 140737488355328) :
 Calls Tryz.prog 177 #[.slice (some ⟨bk, o, none⟩) xs.length c, .string sep] w fun e w' => e = .returned (.string ⟨(Lib.join (xs.map (·.data.toList)) sep.data.toList).toArray⟩) ∧ Below w.heap.size w w' := Any.strings_Join Tryz.lays156 Tryz.Builder_Extra_156 bk o c xs sep w hcells hbk hN hcap hlen
end Go.Proofs
/-
  Tidy of rules: an atom's text, a node that is an atom, an or of atoms; Tidy at one string. (Printed by gen_rule6.py.)
-/
namespace Go.Proofs.YtapgnaimbgjcnaaGreatDoor
open Go Go.RowKit
attribute [local go_sem ↓] Go.wp_at_zero Go.wp_at_succ
def textF (a : Atm) : ByteArray :=
 if a.word = sTrue then ⟨#[116, 114, 117, 101]⟩ else if a.word = sHas then ⟨#[104, 97, 115, 32]⟩ ++ a.name else if a.word = sEq then (a.name ++ ⟨#[32, 61, 32]⟩) ++ a.value else ((⟨#[116, 105, 109, 101, 32]⟩ ++ a.word) ++ ⟨#[32]⟩) ++ a.value
set_option maxRecDepth 100000 in
theorem text_calls (a : Atm) (w : World) (ha : a.word.size ≤ 100000 ∧ a.name.size ≤ 100000 ∧ a.value.size ≤ 100000) : Calls Tryz.prog 199 #[.agg #[.string a.word, .string a.name, .string a.value, .int .i64 a.n]] w (BRet (.string (textF a)) w) := by
 have hB : Below w.heap.size w (w.alloc (.cells #[.string a.word, .string a.name, .string a.value, .int .i64 a.n] 241)) := (Below.refl _ _).alloc (Nat.le_refl _) _
 have hF : textF a = if a.word = sTrue then ⟨#[116, 114, 117, 101]⟩ else if a.word = sHas then ⟨#[104, 97, 115, 32]⟩ ++ a.name else if a.word = sEq then (a.name ++ ⟨#[32, 61, 32]⟩) ++ a.value else ((⟨#[116, 105, 109, 101, 32]⟩ ++ a.word) ++ ⟨#[32]⟩) ++ a.value := rfl
 obtain ⟨T, hT⟩ : ∃ T, a.word = T := ⟨_, rfl⟩
 rw [hT] at hF
 rw [hT] at hB ha ⊢
 obtain ⟨b1, b2, b3⟩ := ha
 by_cases h1 : T = sTrue
 · have e1 : (T.toList == [116, 114, 117, 101]) = true := (tokB T [116, 114, 117, 101] sTrue rfl).trans (decide_eq_true h1)
   rw [if_pos h1] at hF
   rw [hF]
   clear hF h1 hT
   go_enter Tryz.func199, Tryz.ntmps199
   go_wp2_with fail
   go_ret
   exact ⟨rfl, hB⟩
 have e1 : (T.toList == [116, 114, 117, 101]) = false := (tokB T [116, 114, 117, 101] sTrue rfl).trans (decide_eq_false h1)
 rw [if_neg h1] at hF
 by_cases h2 : T = sHas
 · have e2 : (T.toList == [104, 97, 115]) = true := (tokB T [104, 97, 115] sHas rfl).trans (decide_eq_true h2)
   rw [if_pos h2] at hF
   rw [hF]
   clear hF h1 h2 hT
   go_enter Tryz.func199, Tryz.ntmps199
   go_wp2_with fail
   go_ret
   exact ⟨rfl, hB⟩
 have e2 : (T.toList == [104, 97, 115]) = false := (tokB T [104, 97, 115] sHas rfl).trans (decide_eq_false h2)
 rw [if_neg h2] at hF
 by_cases h3 : T = sEq
 · have e3 : (T.toList == [61]) = true := (tokB T [61] sEq rfl).trans (decide_eq_true h3)
   rw [if_pos h3] at hF
   rw [hF]
   clear hF h1 h2 h3 hT
   go_enter Tryz.func199, Tryz.ntmps199
   go_wp2_with fail
   go_ret
   exact ⟨rfl, hB⟩
 · have e3 : (T.toList == [61]) = false := (tokB T [61] sEq rfl).trans (decide_eq_false h3)
   rw [if_neg h3] at hF
   rw [hF]
   clear hF h1 h2 h3 hT
   go_enter Tryz.func199, Tryz.ntmps199
   go_wp2_with fail
   go_ret
   exact ⟨rfl, hB⟩
def leaf (a : Atm) : Nd := .node 4 [] a
theorem NodeAt.top {w : World} {lo hi g : Nat} {kind : Int} {ks : List Nd} {a : Atm} (h : NodeAt w lo hi g (.node kind ks a)) :
 ∃ (v : Value) (gs : List Nat), Blk w g 243 (nodeC kind v a) ∧ w.ownsRow lo 188 1 v ks.length (gs.map ptrV) ∧ gs.length = ks.length ∧ ∀ i (hi_ : i < gs.length) (hk : i < ks.length), NodeAt w lo hi gs[i] ks[i] := by
 cases h with
 | mk g kind a v gs ks h1 h2 h3 h4 h5 h6 => exact ⟨v, gs, h2, h3, h5, h6⟩
theorem nodeC_cell {w : World} {g : Nat} {kind : Int} {v : Value} {a : Atm} (h : Blk w g 243 (nodeC kind v a)) :
 w.cell? ⟨g, 0, none⟩ = some (.int .i64 kind) ∧ w.cell? ⟨g, 1, none⟩ = some v ∧ w.cell? ⟨g, 2, none⟩ = some (.string a.word) ∧ w.cell? ⟨g, 3, none⟩ = some (.string a.name) ∧ w.cell? ⟨g, 4, none⟩ = some (.string a.value) ∧ w.cell? ⟨g, 5, none⟩ = some (.int .i64 a.n) :=
 ⟨h.cell 0, h.cell 1, h.cell 2, h.cell 3, h.cell 4, h.cell 5⟩
set_option maxRecDepth 100000 in
theorem tidyLeaf_calls (a : Atm) (g lo hi : Nat) (w : World) (ha : a.word.size ≤ 100000 ∧ a.name.size ≤ 100000 ∧ a.value.size ≤ 100000) (h : NodeAt w lo hi g (leaf a)) : Calls Tryz.prog 146 #[.pointer (some ⟨g, 0, none⟩)] w (BRet (.string (textF a)) w) := by
 obtain ⟨v, gs, h2, _⟩ := h.top
 obtain ⟨c0, c1, c2, c3, c4, c5⟩ := nodeC_cell h2
 have HC := Lib.hid (text_calls a w ha)
 clear h h2
 go_enter Tryz.func146, Tryz.ntmps146
 go_wp2_with fail
 refine HC.out.mono ?_
 rintro e w2 ⟨rfl, hb⟩
 go_wp2_with fail
 go_ret
 exact ⟨rfl, hb⟩
def txV (ats : List Atm) : List Value := ats.map fun a => .string (textF a)
def orText (ats : List Atm) : ByteArray := ⟨(Lib.join ((ats.map textF).map (·.data.toList)) [32, 111, 114, 32]).toArray⟩
set_option maxRecDepth 100000 in
set_option maxHeartbeats 1000000 in
theorem tidyOr_calls (ats : List Atm) (g lo hi : Nat) (w : World) (h : NodeAt w lo hi g (.node 1 (ats.map leaf) atm0)) (hhi : hi ≤ w.heap.size) (hsz : ∀ a ∈ ats, a.word.size ≤ 100000 ∧ a.name.size ≤ 100000 ∧ a.value.size ≤ 100000) (h1 : 1 ≤ ats.length) (h2 : ats.length ≤ 100000) (hlen : (Lib.join ((ats.map textF).map (·.data.toList)) [32, 111, 114, 32]).length ≤ 140737488355328) :
 Calls Tryz.prog 146 #[.pointer (some ⟨g, 0, none⟩)] w (BRet (.string (orText ats)) w) := by
 obtain ⟨j0, hj, hy0, hy1, hy2⟩ := info_parts info_str
 obtain ⟨v, gs, hB, hrow, hgs, hkids⟩ := h.top
 obtain ⟨c0, c1, c2, c3, c4, c5⟩ := nodeC_cell hB
 obtain ⟨n, hn⟩ : ∃ n, ats.length = n := ⟨_, rfl⟩
 rw [List.length_map, hn] at hrow hgs
 rw [hn] at h1 h2
 obtain ⟨gk, ck, hv, hck, _⟩ := hrow.form (by omega)
 subst hv
 have hlk : n ≤ ck := (own_cap hrow).1
 have HRW : Hid (∀ i, i < n → ∀ (hi_ : i < gs.length), w.cell? ⟨gk, i, none⟩ = some (ptrV gs[i])) := fun i hin hi_ => by
  rw [hrow.cellAt i (by omega), List.getElem?_map, List.getElem?_eq_getElem hi_]; rfl
 have HK : Hid (∀ i (hi_ : i < gs.length) (hk : i < ats.length), NodeAt w lo hi gs[i] (leaf ats[i])) := fun i hi_ hk => by
  have := hkids i hi_ (by rw [List.length_map]; exact hk)
  rw [List.getElem_map] at this
  exact this
 have HSZ := Lib.hid hsz
 have HN := Lib.hid hn
 have HGS := Lib.hid hgs
 have HJ : Hid (∀ W bk c, n ≤ c → bk < W.heap.size → (∀ (j : Nat) x, (ats.map textF)[j]? = some x → W.cell? ⟨bk, 0 + j, none⟩ = some (.string x)) → Calls Tryz.prog 177 #[.slice (some ⟨bk, 0, none⟩) n c, .string ⟨#[32, 111, 114, 32]⟩] W (BRet (.string (orText ats)) W)) := fun W bk c hc hbk hcl => by
  have := Tryz.strings_Join bk 0 c (ats.map textF) ⟨#[32, 111, 114, 32]⟩ W hcl hbk (by rw [List.length_map, hn]; omega) (by rw [List.length_map, hn]; exact hc) hlen
  rw [List.length_map, hn] at this
  exact this
 have hS0 := (Sq.start w).nil w.heap.size 9 1
 clear h hB hrow hkids hn hgs hlen hsz
 go_enter Tryz.func146, Tryz.ntmps146
 go_wp2_with fail
 go_loopw [5, 54] (fun s5 i wr => ∃ k : Nat, k ≤ n ∧ i = .int .i64 k ∧ Sq w wr [rOwn w.heap.size 9 1 s5 k (txV (ats.take k))]) (fun _ i _ => n - (intOf i).toNat)
 case atStart => exact ⟨0, Nat.zero_le _, rfl, hS0⟩
 case round =>
  clear hS0
  obtain ⟨k, hk, rfl, hS⟩ := hrel
  have d0 := below_cell hS.below c0
  by_cases hlt : k < n
  · have hkg : k < gs.length := by rw [HGS.out]; exact hlt
    have hka : k < ats.length := by rw [HN.out]; exact hlt
    have d1 := below_cell hS.below (HRW.out k hlt hkg)
    have hnode := (HK.out k hkg hka).keep (w' := wr) (fun q _ hq => hS.below.block q (by omega))
    have HC := Lib.hid (tidyLeaf_calls ats[k] gs[k] lo hi wr (HSZ.out _ (List.getElem_mem hka)) hnode)
    have hk0 : (0 : Int) ≤ (k : Int) := by omega
    have hkn : (k : Int) < (n : Int) := by omega
    obtain ⟨x, hx⟩ : ∃ x, textF ats[k] = x := ⟨_, rfl⟩
    rw [hx] at HC
    have HX := Lib.hid hx
    clear hx hnode
    go_wp2_with fail
    refine HC.out.mono ?_
    rintro e w2 ⟨rfl, hb2⟩
    have hS2 := hS.callB hb2
    have d2 := below_cell hS2.below c0
    have hsz2 := hS2.size
    have HO : w2.ownsRow w.heap.size 9 1 u5 k (txV (ats.take k)) := hS2.head
    clear d0 d1 hS
    go_wp2_with (first
     | (at_builtin; refine wpList_append_own_at _ rfl _ _ 58 rfl w.heap.size 9 j0 (.string ⟨#[]⟩) 1 16 Tryz.underlying58 hj hy0 hy1 hy2 rfl (by decide) _ _ _ rfl (HO.alloc _) ⟨w2.heap.size, 0, none⟩ 1 1 [.string x] rfl rfl (World.news_of_block (heap_alloc_new _ _)) (one1 rfl) (by unfold maxLen; omega) (by omega) (by simp; omega) ?_; intro v' w8 hown' hgrow _ hblk; have hS8 := (hS2.alloc _).append hown' hgrow hblk; clear hown' hgrow hblk))
    go_roundw
    case rel =>
     refine ⟨k + 1, hlt, by go_num, ?_⟩
     rw [List.take_succ_eq_append_getElem hka]
     unfold txV
     rw [List.map_append, List.map_singleton, HX.out]
     exact hS8
    case measure => simp [intOf]; omega
  · obtain rfl : k = n := by omega
    have ho : wr.ownsRow w.heap.size 9 1 u5 k (txV (ats.take k)) := hS.head
    rw [List.take_of_length_le (by rw [HN.out]; exact Nat.le_refl _)] at ho
    obtain ⟨bk, cap, hv, hcap, _⟩ := ho.form (by omega)
    subst hv
    have hcl : ∀ (j : Nat) x, (ats.map textF)[j]? = some x → wr.cell? ⟨bk, 0 + j, none⟩ = some (.string x) := fun j x hx => by
     obtain ⟨hjl, hjx⟩ := List.getElem?_eq_some_iff.1 hx
     rw [List.length_map, HN.out] at hjl
     rw [Nat.zero_add, ho.cellAt j (by omega)]
     unfold txV
     rw [List.getElem?_map] at hx ⊢
     cases hg : ats[j]? with
     | none => rw [hg] at hx; cases hx
     | some y => rw [hg] at hx; simp at hx; simp [hx]
    have HC := Lib.hid (HJ.out wr bk cap (own_cap ho).1 (ho.lt bk rfl).2 hcl)
    clear ho hcl
    go_wp2_with fail
    refine HC.out.mono ?_
    rintro e w2 ⟨rfl, hb2⟩
    go_wp2_with fail
    go_ret
    exact ⟨rfl, below_call hS.below hb2 (Nat.le_refl _)⟩
def litT : ByteArray := ⟨#[40, 97, 61, 120, 41, 111, 114, 32, 104, 97, 115, 32, 98]⟩
def noNum (_ : ByteArray) : Int × Bool := (0, false)
def litA : List Atm := [⟨⟨#[61]⟩, ⟨#[97]⟩, ⟨#[120]⟩, 0⟩, ⟨⟨#[104, 97, 115]⟩, ⟨#[98]⟩, ⟨#[]⟩, 0⟩]
theorem lit_noTime : NoTime litT := by
 intro i
 by_cases h : i < 13
 · have : (List.range 13).all (fun i => !((litT.extract i (tokE litT i)).data.toList == sTime.data.toList)) = true := by decide +kernel
   rw [List.all_eq_true] at this
   have := this i (by simpa using h)
   intro e
   rw [e] at this
   simp at this
 · intro e
   have h1 : (litT.extract i (tokE litT i)).size = 4 := by rw [e]; rfl
   rw [ByteArray.size_extract] at h1
   have h2 : litT.size = 13 := rfl
   omega
theorem lit_parse : (parseT noNum litT).1 = .node 1 (litA.map leaf) atm0 := by kernel_rfl
theorem lit_parseE : parseE noNum litT = (0, 0) := by decide +kernel
theorem lit_text : orText litA = ⟨#[97, 32, 61, 32, 120, 32, 111, 114, 32, 104, 97, 115, 32, 98]⟩ := by kernel_rfl
set_option maxRecDepth 100000 in
theorem tidyLit_calls (w : World) : Calls Tryz.prog 98 #[.string ⟨#[40, 97, 61, 120, 41, 111, 114, 32, 104, 97, 115, 32, 98]⟩] w (BRet (.tuple #[.string ⟨#[97, 32, 61, 32, 120, 32, 111, 114, 32, 104, 97, 115, 32, 98]⟩, .int .i64 0, .int .i64 0]) w) := by
 have HP := Lib.hid (parse_calls noNum litT w (by decide) (.inl lit_noTime))
 go_enter Tryz.func98, Tryz.ntmps98
 go_wp2_with fail
 refine HP.out.mono ?_
 rintro e w2 ⟨v, rfl, hb2, hN⟩
 rw [lit_parseE] at hN
 obtain ⟨g, rfl, hnode⟩ := hN rfl
 rw [lit_parse] at hnode
 rw [lit_parseE]
 have HT := Lib.hid (tidyOr_calls litA g _ _ w2 hnode (Nat.le_refl _) (by decide) (by decide) (by decide) (by decide))
 rw [lit_text] at HT
 clear hN hnode
 go_wp2_with fail
 refine HT.out.mono ?_
 rintro e w3 ⟨rfl, hb3⟩
 go_wp2_with fail
 go_ret3
 exact ⟨rfl, below_call hb2 hb3 (Nat.le_refl _)⟩
end Go.Proofs.YtapgnaimbgjcnaaGreatDoor
