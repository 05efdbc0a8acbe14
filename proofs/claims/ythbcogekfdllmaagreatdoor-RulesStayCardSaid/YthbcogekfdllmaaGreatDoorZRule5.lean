/-
  The parser of rules, on: or, not, parse by contracts, where no token is 'time'. (Was printed by gen_rule5.py; this text is the truth now.)
-/
import Derived.Test.YthbcogekfdllmaaGreatDoorZRule4
namespace Go.Proofs.YthbcogekfdllmaaGreatDoor
open Go Go.RowKit

theorem Px.node_keep {w W : World} {b : Nat} {l : List Rsc} {x : Nl} (h : Px w b W l) (i : Nat) (hi : l[i]? = some (rNode x)) : NodeAt W w.heap.size W.heap.size x.g x.t := by
  have h1 : NodeAt W x.lo x.hi x.g x.t := h.nth i hi
  have h2 := h1.lt
  have h3 := h.ge i hi (g := x.lo) ⟨Nat.le_refl _, by omega⟩
  have h4 := h.ge i hi (g := x.hi - 1) ⟨by omega, by omega⟩
  exact h1.wide h3.1 (by omega)
def NotC (num : ByteArray → Int × Bool) (b : Nat) (s : ByteArray) (f : Nat) (d : Int) (lo : Nat) : Prop :=
  ∀ W t, PAt W b s t → POk s t → t.bad = false → lo ≤ t.at_ → Calls Tryz.prog 200 #[.pointer (some ⟨b, 0, none⟩), .int .i64 d] W (NodS b s (notF num s f d t) t.at_ W)
theorem NodS.of_below {b : Nat} {s : ByteArray} {r : Nd × PSt} {lo : Nat} {w w1 : World} {e : Ending} {w' : World} (_hb : b < w.heap.size) (k : Below w.heap.size w w1) (h : NodS b s r lo w1 e w') : NodS b s r lo w e w' := by
  obtain ⟨g, he, h1, h2, h3, h4, h5⟩ := h
  exact ⟨g, he, h1.wide k.size (Nat.le_refl _), h2, (Bx.of_below k b).call h3 (Nat.le_refl _), h4, h5⟩

set_option maxRecDepth 100000 in
theorem or11_calls (num : ByteArray → Int × Bool) (gp gd b : Nat) (s : ByteArray) (t : PSt) (f : Nat) (d : Int) (lo : Nat) (w : World) (h : PAt w b s t) (hok : POk s t) (hbad : t.bad = false) (hlo : lo ≤ t.at_)
    (hp : Blk w gp 232 #[.pointer (some ⟨b, 0, none⟩)]) (hd : Blk w gd 3 #[.int .i64 d]) (HN : NotC num b s f d lo) :
    Calls Tryz.prog 199 #[.pointer (some ⟨gp, 0, none⟩), .pointer (some ⟨gd, 0, none⟩)] w (NodS b s (notF num s f d t) t.at_ w) := by
  have HC := Lib.hid (HN w t h hok hbad hlo)
  have k0 := hp.cell 0
  have k1 := hd.cell 0
  clear h hok hbad hlo HN hp hd
  go_enter Tryz.func199, Tryz.ntmps199
  go_wp2_with fail
  refine HC.out.mono ?_
  rintro e w2 ⟨g, rfl, h1, h2, h3, h4, h5⟩
  go_wp2_with fail
  go_ret
  exact ⟨g, rfl, h1, h2, h3, h4, h5⟩

set_option maxRecDepth 100000 in
theorem or1_calls (num : ByteArray → Int × Bool) (gp gd b : Nat) (s : ByteArray) (t : PSt) (f : Nat) (d : Int) (lo : Nat) (w : World) (hs : s.size ≤ 100000) (h : PAt w b s t) (hok : POk s t) (hbad : t.bad = false) (hlo : lo ≤ t.at_)
    (hp : Blk w gp 232 #[.pointer (some ⟨b, 0, none⟩)]) (hd : Blk w gd 3 #[.int .i64 d]) (hpb : gp ≠ b) (hdb : gd ≠ b) (HN : NotC num b s f d lo) :
    Calls Tryz.prog 198 #[.pointer (some ⟨gp, 0, none⟩), .pointer (some ⟨gd, 0, none⟩)] w (NodS b s (manyF s 2 sAnd (notF num s f d) t) t.at_ w) := by
  have HC := Lib.hid (many2_calls (notF num s f d) gp gd b s t 2 sAnd lo w h hok hs hbad hlo (by decide) (fun W t' hW hP hK hB hL => or11_calls num gp gd b s t' f d lo W hP hK hB hL (hp.bx hW hpb) (hd.bx hW hdb) HN))
  have k0 := hp.cell 0
  clear h hok hbad hlo HN hp hd hpb hdb
  go_enter Tryz.func198, Tryz.ntmps198
  go_wp2_with fail
  refine HC.out.mono ?_
  rintro e w2 ⟨g, rfl, h1, h2, h3, h4, h5⟩
  go_wp2_with fail
  go_ret
  exact ⟨g, rfl, h1, h2, h3, h4, h5⟩

set_option maxRecDepth 100000 in
theorem or_calls (num : ByteArray → Int × Bool) (b : Nat) (s : ByteArray) (t : PSt) (f : Nat) (d : Int) (lo : Nat) (w : World) (hs : s.size ≤ 100000) (h : PAt w b s t) (hok : POk s t) (hbad : t.bad = false) (hlo : lo ≤ t.at_) (HN : NotC num b s f d lo) :
    Calls Tryz.prog 152 #[.pointer (some ⟨b, 0, none⟩), .int .i64 d] w (NodS b s (orF num s f d t) t.at_ w) := by
  have hb := h.lt
  have hS := ((Px.start w hb).add #[.pointer (some ⟨b, 0, none⟩)] 232).add #[.int .i64 d] 3
  have hz : (w.alloc (.cells #[.pointer (some ⟨b, 0, none⟩)] 232)).heap.size = w.heap.size + 1 := by simp
  rw [hz] at hS
  have hB : Below w.heap.size w ((w.alloc (.cells #[.pointer (some ⟨b, 0, none⟩)] 232)).alloc (.cells #[.int .i64 d] 3)) := ((Below.refl _ _).alloc (Nat.le_refl _) _).alloc (by simp) _
  have hpb : w.heap.size ≠ b := by omega
  have hdb : w.heap.size + 1 ≠ b := by omega
  have hp := hS.nth 1 rfl
  have hd := hS.nth 0 rfl
  have HC := Lib.hid (many1_calls (manyF s 2 sAnd (notF num s f d)) w.heap.size (w.heap.size + 1) b s t 1 sOr lo _ (h.below hB) hok hs hbad hlo (by decide) (fun W t' hW hP hK hB' hL => or1_calls num w.heap.size (w.heap.size + 1) b s t' f d lo W hs hP hK hB' hL (Blk.bx hp hW hpb) (Blk.bx hd hW hdb) hpb hdb HN))
  clear h hok hbad hlo HN hp hd hpb hdb hS hz
  go_enter Tryz.func152, Tryz.ntmps152
  go_wp2_with fail
  refine HC.out.mono ?_
  intro e w2 hN
  have hN2 : NodS b s (orF num s f d t) t.at_ w e w2 := NodS.of_below hb hB hN
  obtain ⟨g, rfl, h1, h2, h3, h4, h5⟩ := hN2
  clear hN
  go_wp2_with fail
  go_ret
  exact ⟨g, rfl, h1, h2, h3, h4, h5⟩

theorem takeT (s : ByteArray) (t : PSt) (h : t.bad = false) : takeF s t true = nextF s t ∧ (nextF s t).bad = false := by
  unfold takeF
  rw [h]
  exact ⟨by simp, h⟩
theorem nest_keep (d : Int) (t : PSt) : (nestF d t).at_ = t.at_ ∧ (nestF d t).tok = t.tok ∧ (nestF d t).bad = t.bad := by
  unfold nestF
  split <;> exact ⟨rfl, rfl, rfl⟩
set_option maxRecDepth 100000 in
set_option maxHeartbeats 1000000 in
theorem not_calls (num : ByteArray → Int × Bool) (b : Nat) (s : ByteArray) (hs : s.size ≤ 100000) (hn : NoTime s ∨ NumC num) : ∀ (f : Nat) (d : Int) (lo : Nat), 0 ≤ d → d ≤ lo → s.size < lo + f → NotC num b s f d lo
  | 0, d, lo, _, _, hf => fun W t _ hok _ hlo => by
    have := hok.at_
    omega
  | f + 1, d, lo, h0, h1, hf => fun w t h hok hbad hlo => by
    have hb := h.lt
    obtain ⟨n1, n2, n3⟩ := nest_keep d t
    obtain ⟨t0, ht0⟩ : ∃ t0, nestF d t = t0 := ⟨_, rfl⟩
    rw [ht0] at n1 n2 n3
    have hok0 : POk s t0 := by rw [← ht0]; exact hok.nest d
    obtain ⟨k1, k2⟩ := takeT s t0 (n3.trans hbad)
    obtain ⟨t1, ht1⟩ : ∃ t1, nextF s t0 = t1 := ⟨_, rfl⟩
    rw [ht1] at k1 k2
    have hok1 : POk s t1 := by rw [← ht1]; exact hok0.next
    have ge1 : t.at_ + t.tok.size ≤ t1.at_ := by rw [← ht1, ← n1, ← n2]; exact next_ge
    have hat := hok.at_
    have hat1 := hok1.at_
    obtain ⟨T, hT⟩ : ∃ T, t.tok = T := ⟨_, rfl⟩
    rw [hT] at ge1
    have HNE : Hid (∀ W, PAt W b s t → Calls Tryz.prog 235 #[.pointer (some ⟨b, 0, none⟩), .int .i64 d] W (ParS b s t0 (.tuple #[]) W)) := fun W hW => by rw [← ht0]; exact nest_calls_ b s t d W hW
    have HTK : Hid (∀ W, PAt W b s t0 → Calls Tryz.prog 234 #[.pointer (some ⟨b, 0, none⟩), .bool true] W (ParS b s t1 (.string (takeS t0 true)) W)) := fun W hW => by
      have := take_calls_ b s t0 true W hW hok0 hs
      rw [k1] at this
      exact this
    have IH := not_calls num b s hs hn f (d + 1) t1.at_ (by omega)
    obtain ⟨c0, c1, c2, c3, c4, f1, f2, f3, f4⟩ := h.cells
    rw [hT] at c2
    by_cases q1 : t.tok = sNot
    · have hT3 : T.size = 3 := by rw [← hT, q1]; rfl
      have e1 : (T.toList == [110, 111, 116]) = true := (tokB _ [110, 111, 116] sNot rfl).trans (decide_eq_true (hT.symm.trans q1))
      have HC : Hid (∀ W, PAt W b s t1 → Calls Tryz.prog 200 #[.pointer (some ⟨b, 0, none⟩), .int .i64 (d + 1)] W (NodS b s (notF num s f (d + 1) t1) t1.at_ W)) := fun W hW => IH (by omega) (by omega) W t1 hW hok1 k2 (Nat.le_refl _)
      have HR : Hid (notF num s (f + 1) d t = (.node 3 [(notF num s f (d + 1) t1).1] atm0, (notF num s f (d + 1) t1).2)) := by rw [notF, if_pos q1, ht0, k1]; exact Lib.hid rfl
      rw [HR.out]
      obtain ⟨r, hr⟩ : ∃ r, notF num s f (d + 1) t1 = r := ⟨_, rfl⟩
      rw [hr]
      rw [hr] at HC
      clear IH hT q1 ht0 ht1 hr n1 n2 n3 k1 k2 hbad HR
      go_enter Tryz.func200, Tryz.ntmps200
      go_wp2_with fail
      refine (HNE.out _ h).mono ?_
      rintro e w2 ⟨rfl, P2, B2⟩
      go_wp2_with fail
      refine (HTK.out _ P2).mono ?_
      rintro e w3 ⟨rfl, P3, B3⟩
      have hS3 := ((Px.start w hb).call B2).call B3
      go_wp2_with fail
      refine (HC.out _ P3).mono ?_
      rintro e w4 ⟨g, rfl, N4, P4, B4, ok4, le4⟩
      have hS4 := hS3.node B4 N4
      have hS5 := (hS4.addRow #[ptrV g] 179 1 1 rfl (by decide)).add #[.int .i64 3, .slice (some ⟨w4.heap.size, 0, none⟩) 1 1, .string ⟨#[]⟩, .string ⟨#[]⟩, .string ⟨#[]⟩, .int .i64 0] 240
      have P5 := (P4.below ((Below.refl _ _).alloc (Nat.le_refl _) (.cells #[ptrV g] 179))).below ((Below.refl _ _).alloc (Nat.le_refl _) (.cells #[.int .i64 3, .slice (some ⟨w4.heap.size, 0, none⟩) 1 1, .string ⟨#[]⟩, .string ⟨#[]⟩, .string ⟨#[]⟩, .int .i64 0] 240))
      have hgs : (w4.alloc (.cells #[ptrV g] 179)).heap.size = w4.heap.size + 1 := by simp
      rw [hgs] at hS5
      clear c0 c1 c2 c3 c4 f1 f2 f3 f4 e1 hS4 hS3
      go_wp2_with fail
      go_ret
      refine ⟨w4.heap.size + 1, rfl, ?_, P5, hS5.bx, ok4, by show t.at_ ≤ r.2.at_; omega⟩
      refine .mk (w4.heap.size + 1) 3 atm0 (.slice (some ⟨w4.heap.size, 0, none⟩) 1 1) [g] [r.1] (hS5.ge 0 rfl (g := w4.heap.size + 1) rfl) (hS5.nth 0 rfl) (hS5.nth 1 rfl) (fun k e => (hS5.ge 1 rfl (g := k) e).2) rfl (fun i hi_ hk => ?_)
      obtain rfl : i = 0 := by simp at hk; omega
      exact hS5.node_keep 2 rfl
    by_cases q2 : t.tok = sOpen
    · have hT1 : T.size = 1 := by rw [← hT, q2]; rfl
      have e1 : (T.toList == [110, 111, 116]) = false := (tokB _ [110, 111, 116] sNot rfl).trans (decide_eq_false (by rw [← hT]; exact q1))
      have e2 : (T.toList == [40]) = true := (tokB _ [40] sOpen rfl).trans (decide_eq_true (hT.symm.trans q2))
      have HC : Hid (∀ W, PAt W b s t1 → Calls Tryz.prog 152 #[.pointer (some ⟨b, 0, none⟩), .int .i64 (d + 1)] W (NodS b s (orF num s f (d + 1) t1) t1.at_ W)) := fun W hW => or_calls num b s t1 f (d + 1) t1.at_ W hs hW hok1 k2 (Nat.le_refl _) (IH (by omega) (by omega))
      obtain ⟨r, hr⟩ : ∃ r, orF num s f (d + 1) t1 = r := ⟨_, rfl⟩
      obtain ⟨T2, hT2⟩ : ∃ T2, r.2.tok = T2 := ⟨_, rfl⟩
      obtain ⟨q, hq⟩ : ∃ q, decide (T2 = sShut) = q := ⟨_, rfl⟩
      have eq1 : (T2.toList == [41]) = q := (tokB T2 [41] sShut rfl).trans hq
      have HR : Hid (notF num s (f + 1) d t = (r.1, takeF s r.2 q)) := by
        rw [notF, if_neg q1, if_pos q2, ht0, k1]
        have : manyF s 1 sOr (manyF s 2 sAnd (notF num s f (d + 1))) t1 = r := hr
        simp only [this, hT2, hq]
        exact Lib.hid trivial
      rw [HR.out]
      rw [hr] at HC
      have HQ := Lib.hid eq1
      have HT2 := Lib.hid hT2
      clear IH hT q1 q2 ht0 ht1 hr n1 n2 n3 k1 k2 hbad HR hq eq1 hT2
      go_enter Tryz.func200, Tryz.ntmps200
      go_wp2_with fail
      refine (HNE.out _ h).mono ?_
      rintro e w2 ⟨rfl, P2, B2⟩
      go_wp2_with fail
      refine (HTK.out _ P2).mono ?_
      rintro e w3 ⟨rfl, P3, B3⟩
      have hS3 := ((Px.start w hb).call B2).call B3
      go_wp2_with fail
      refine (HC.out _ P3).mono ?_
      rintro e w4 ⟨g, rfl, N4, P4, B4, ok4, le4⟩
      have hS4 := hS3.node B4 N4
      clear c0 c1 c2 c3 c4 f1 f2 f3 f4 e1 e2
      obtain ⟨c0, c1, c2, c3, c4, f1, f2, f3, f4⟩ := P4.cells
      rw [HT2.out] at c2
      go_wp2_with fail
      rw [HQ.out]
      refine (take_calls_ b s r.2 q w4 P4 ok4 hs).mono ?_
      rintro e w5 ⟨rfl, P5, B5⟩
      have hS5 := hS4.call B5
      clear c0 c1 c2 c3 c4 f1 f2 f3 f4
      go_wp2_with fail
      go_ret
      refine ⟨g, rfl, ?_, P5, hS5.bx, ok4.take q, ?_⟩
      · have h1 : NodeAt w5 w3.heap.size w4.heap.size g r.1 := hS5.nth 0 rfl
        exact h1.wide hS3.size B5.size
      · have := take_ge (s := s) (t := r.2) q
        show t.at_ ≤ (takeF s r.2 q).at_
        omega
    · have e1 : (T.toList == [110, 111, 116]) = false := (tokB _ [110, 111, 116] sNot rfl).trans (decide_eq_false (by rw [← hT]; exact q1))
      have e2 : (T.toList == [40]) = false := (tokB _ [40] sOpen rfl).trans (decide_eq_false (by rw [← hT]; exact q2))
      obtain ⟨r, hr⟩ : ∃ r, atomF num s t = r := ⟨_, rfl⟩
      have HC := Lib.hid (atom_calls num b s t w h hok hs (fun e => hn.elim (fun h => absurd e (hok.noTime h)) id))
      have HR : Hid (notF num s (f + 1) d t = (.node 4 [] r.1, r.2)) := by rw [notF, if_neg q1, if_neg q2, hr]; exact Lib.hid rfl
      have HK : Hid (POk s r.2 ∧ t.at_ ≤ r.2.at_) := by rw [← hr]; exact Lib.hid (atom_ok num hok)
      rw [HR.out]
      rw [hr] at HC
      clear IH hT q1 q2 ht0 ht1 hr n1 n2 n3 k1 k2 hbad HR
      go_enter Tryz.func200, Tryz.ntmps200
      go_wp2_with fail
      refine HC.out.mono ?_
      rintro e w2 ⟨rfl, P2, B2⟩
      have hS2 := ((Px.start w hb).call B2).add (nodeC 4 (.slice none 0 0) r.1) 240
      have P3 := P2.below ((Below.refl _ _).alloc (Nat.le_refl _) (.cells (nodeC 4 (.slice none 0 0) r.1) 240))
      clear c0 c1 c2 c3 c4 f1 f2 f3 f4 e1 e2
      unfold atmV
      go_wp2_with fail
      go_ret
      refine ⟨w2.heap.size, rfl, ?_, P3, hS2.bx, HK.out.1, HK.out.2⟩
      exact .mk w2.heap.size 4 r.1 (.slice none 0 0) [] [] (hS2.ge 0 rfl (g := w2.heap.size) rfl) (hS2.nth 0 rfl) (World.ownsRow_nil _ _ _ _) (fun k e => by simp [Value.ownBlock] at e) rfl (fun i hi_ => absurd hi_ (by simp))

/-- what parse answers -/
def ParseS (num : ByteArray → Int × Bool) (s : ByteArray) (w : World) (e : Ending) (w' : World) : Prop :=
  ∃ v, e = .returned (.tuple #[v, .int .i64 (parseE num s).1, .int .i64 (parseE num s).2]) ∧ Below w.heap.size w w' ∧ ((parseE num s).2 = 0 → ∃ g, v = ptrV g ∧ NodeAt w' w.heap.size w'.heap.size g (parseT num s).1)
set_option maxRecDepth 100000 in
theorem parse_calls (num : ByteArray → Int × Bool) (s : ByteArray) (w : World) (hs : s.size ≤ 100000) (hn : NoTime s ∨ NumC num) :
    Calls Tryz.prog 98 #[.string s] w (ParseS num s w) := by
  by_cases hl : 2000 < s.size
  · have HR : Hid (parseE num s = (0, 2)) := by unfold parseE; rw [if_pos hl]; exact Lib.hid rfl
    go_enter Tryz.func98, Tryz.ntmps98
    go_wp2_with fail
    go_ret3
    exact ⟨.pointer none, by rw [HR.out]; rfl, Below.refl _ _, fun h => by rw [HR.out] at h; simp at h⟩
  · have P0 : PAt (w.alloc (.cells #[.string s, .int .i64 0, .string ⟨#[]⟩, .int .i64 (-1), .bool false] 234)) w.heap.size s ⟨0, ⟨#[]⟩, -1, false⟩ := Blk.new w _ _
    have hB0 : Bx w.heap.size w.heap.size w (w.alloc (.cells #[.string s, .int .i64 0, .string ⟨#[]⟩, .int .i64 (-1), .bool false] 234)) := (Bx.refl _ _ _).alloc (Nat.le_refl _) _
    have HC1 := Lib.hid (next_calls_ w.heap.size s _ _ P0 (pst_ok s) hs)
    have ok1 : POk s (pst0 s) := (pst_ok s).next
    have HC2 : Hid (∀ W, PAt W w.heap.size s (pst0 s) → Calls Tryz.prog 152 #[.pointer (some ⟨w.heap.size, 0, none⟩), .int .i64 0] W (NodS w.heap.size s (parseT num s) (pst0 s).at_ W)) := fun W hW =>
      or_calls num w.heap.size s (pst0 s) (s.size + 1) 0 0 W hs hW ok1 rfl (Nat.zero_le _) (not_calls num w.heap.size s hs hn (s.size + 1) 0 0 (by omega) (by omega) (by omega))
    obtain ⟨r, hr⟩ : ∃ r, parseT num s = r := ⟨_, rfl⟩
    rw [hr] at HC2
    obtain ⟨bd, hbd⟩ : ∃ bd, r.2.bad = bd := ⟨_, rfl⟩
    have HR : Hid (parseE num s = if (bd || decide (r.2.at_ < s.size)) = true then ((r.2.at_ : Int), 9) else if 0 ≤ r.2.deep then (r.2.deep, 2) else (0, 0)) := by unfold parseE; rw [if_neg hl, hr, hbd]; exact Lib.hid rfl
    have HRR := Lib.hid hr
    have HBD := Lib.hid hbd
    clear hr hbd ok1
    go_enter Tryz.func98, Tryz.ntmps98
    go_wp2_with fail
    refine HC1.out.mono ?_
    rintro e w2 ⟨rfl, P2, B2⟩
    have hB2 := hB0.call B2 (Nat.le_refl _)
    go_wp2_with fail
    refine (HC2.out _ P2).mono ?_
    rintro e w3 ⟨g, rfl, N3, P3, B3, ok3, _⟩
    have hB3 := (hB2.call B3 (Nat.le_refl _)).below (Nat.le_refl _)
    have hN3 : NodeAt w3 w.heap.size w3.heap.size g r.1 := N3.wide hB2.size (Nat.le_refl _)
    clear hB0 hB2 HC1 HC2 P0 P2 B2 N3 B3
    obtain ⟨c0, c1, c2, c3, c4, f1, f2, f3, f4⟩ := P3.cells
    rw [HBD.out] at c4
    have hat := ok3.at_
    have hdp := ok3.deep
    clear P3 ok3
    cases bd
    · by_cases h2 : r.2.at_ < s.size
      · have HE : Hid (parseE num s = ((r.2.at_ : Int), 9)) := by rw [HR.out, if_pos (by simp [h2])]; exact Lib.hid rfl
        go_wp2_with fail
        go_quiet (fail)
        go_wp2_with fail
        go_ret3
        exact ⟨.pointer none, by rw [HE.out]; rfl, below_drewN hB3 _, fun h => by rw [HE.out] at h; simp at h⟩
      · by_cases h3 : 0 ≤ r.2.deep
        · have HE : Hid (parseE num s = (r.2.deep, 2)) := by rw [HR.out, if_neg (by simp; omega), if_pos h3]; exact Lib.hid rfl
          go_wp2_with fail
          go_quiet (fail)
          go_wp2_with fail
          go_ret3
          exact ⟨.pointer none, by rw [HE.out]; rfl, below_drewN hB3 _, fun h => by rw [HE.out] at h; simp at h⟩
        · have HE : Hid (parseE num s = (0, 0)) := by rw [HR.out, if_neg (by simp; omega), if_neg h3]; exact Lib.hid rfl
          go_wp2_with fail
          go_ret3
          exact ⟨ptrV g, by rw [HE.out]; rfl, hB3, fun _ => ⟨g, rfl, by rw [HRR.out]; exact hN3⟩⟩
    · have HE : Hid (parseE num s = ((r.2.at_ : Int), 9)) := by rw [HR.out, if_pos (by simp)]; exact Lib.hid rfl
      go_wp2_with fail
      go_quiet (fail)
      go_wp2_with fail
      go_ret3
      exact ⟨.pointer none, by rw [HE.out]; rfl, below_drewN hB3 _, fun h => by rw [HE.out] at h; simp at h⟩
end Go.Proofs.YthbcogekfdllmaaGreatDoor
