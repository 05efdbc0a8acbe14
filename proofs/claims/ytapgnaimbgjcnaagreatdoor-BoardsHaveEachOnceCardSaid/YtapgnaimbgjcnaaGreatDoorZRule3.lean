/-
  The parser of rules, on: atom by a contract, where no token is 'time' or base.Number has its contract. (Was printed by gen_rule1.py; this text is the truth now.)
-/
import Derived.Test.YtapgnaimbgjcnaaGreatDoorZRule1
import Derived.Test.YtapgnaimbgjcnaaGreatDoorZFlat
import Derived.Deep.DeepCutAuto
namespace Go.Proofs.YtapgnaimbgjcnaaGreatDoor
open Go Go.RowKit
theorem tokB (x : ByteArray) (l : List UInt8) (y : ByteArray) (hy : y.data.toList = l) : (x.toList == l) = decide (x = y) := by
 rw [Lib.toList_data, ← hy]
 by_cases h : x = y
 · subst h; simp
 · rw [decide_eq_false h]
   have : x.data.toList ≠ y.data.toList := fun e => h (by cases x; cases y; congr; exact Array.toList_inj.1 e)
   simpa using this
def atmV (a : Atm) : Value := .agg #[.string a.word, .string a.name, .string a.value, .int .i64 a.n]
def AtomS (b : Nat) (s : ByteArray) (r : Atm × PSt) (w : World) (e : Ending) (w' : World) : Prop := e = .returned (atmV r.1) ∧ PAt w' b s r.2 ∧ Bx w.heap.size b w w'
theorem PAt.below {W W' : World} {b : Nat} {s : ByteArray} {t : PSt} (h : PAt W b s t) (k : Below W.heap.size W W') : PAt W' b s t := Blk.below h k
theorem PAt.lt {W : World} {b : Nat} {s : ByteArray} {t : PSt} (h : PAt W b s t) : b < W.heap.size := Blk.lt h
theorem PAt.far {W : World} {b : Nat} {s : ByteArray} {t : PSt} (h : PAt W b s t) {g : Nat} (hg : b ≠ g) (i : Nat) (u : Value) : PAt (W.setCell ⟨g, i, none⟩ u) b s t := Blk.far (p := ⟨g, i, none⟩) h hg u
theorem Blk.four {w : World} {g : Nat} {t : TypeId} {x y z u : Value} (h : Blk w g t #[x, y, z, u]) :
 w.cell? ⟨g, 0, none⟩ = some x ∧ w.cell? ⟨g, 1, none⟩ = some y ∧ w.cell? ⟨g, 2, none⟩ = some z ∧ w.cell? ⟨g, 3, none⟩ = some u ∧ w.frozen? ⟨g, 0, none⟩ = false ∧ w.frozen? ⟨g, 1, none⟩ = false ∧ w.frozen? ⟨g, 2, none⟩ = false ∧ w.frozen? ⟨g, 3, none⟩ = false :=
 ⟨h.cell 0, h.cell 1, h.cell 2, h.cell 3, h.frozen 0, h.frozen 1, h.frozen 2, h.frozen 3⟩
theorem Px.four {w W : World} {b : Nat} {l : List Rsc} {g : Nat} {t : TypeId} {x y z u : Value} (h : Px w b W (rBlk g t #[x, y, z, u] :: l)) (x' y' z' u' : Value) :
 Px w b ((((W.setCell ⟨g, 0, none⟩ x').setCell ⟨g, 1, none⟩ y').setCell ⟨g, 2, none⟩ z').setCell ⟨g, 3, none⟩ u') (rBlk g t #[x', y', z', u'] :: l) :=
 (((h.set_ 0 x').set_ 1 y').set_ 2 z').set_ 3 u'
theorem PAt.four {W : World} {b : Nat} {s : ByteArray} {t : PSt} (h : PAt W b s t) {g : Nat} (hg : b ≠ g) (x' y' z' u' : Value) :
 PAt ((((W.setCell ⟨g, 0, none⟩ x').setCell ⟨g, 1, none⟩ y').setCell ⟨g, 2, none⟩ z').setCell ⟨g, 3, none⟩ u') b s t :=
 (((h.far hg 0 x').far hg 1 y').far hg 2 z').far hg 3 u'
def NumC (num : ByteArray → Int × Bool) : Prop := ∀ x W, x.size ≤ 100000 → Calls Tryz.prog 290 #[.string x, .int .i64 9] W (BRet (.tuple #[.int .i64 (num x).1, .bool (num x).2]) W)
theorem out_dec (n : Int) (ok : Bool) : (ok && !(outB n 0 864000000)) = (ok && decide (0 ≤ n ∧ n ≤ 864000000)) := by
 congr 1
 by_cases h : 0 ≤ n ∧ n ≤ 864000000
 · rw [decide_eq_true h, outB_f (by omega) (by omega)]; rfl
 · rw [decide_eq_false h, outB_t (by omega)]; rfl
set_option maxRecDepth 100000 in
set_option maxHeartbeats 1000000 in
theorem atom_calls (num : ByteArray → Int × Bool) (b : Nat) (s : ByteArray) (t : PSt) (w : World) (h : PAt w b s t) (hok : POk s t) (hs : s.size ≤ 100000) (hT0 : t.tok = sTime → NumC num) :
 Calls Tryz.prog 279 #[.pointer (some ⟨b, 0, none⟩)] w (AtomS b s (atomF num s t) w) := by
 have hb := h.lt
 have hbz : b ≠ w.heap.size := by omega
 have hS0 := (Px.start w h.lt).add #[.string ⟨#[]⟩, .string ⟨#[]⟩, .string ⟨#[]⟩, .int .i64 0] 241
 have P0 := h.below ((Below.refl _ _).alloc (Nat.le_refl _) (.cells #[.string ⟨#[]⟩, .string ⟨#[]⟩, .string ⟨#[]⟩, .int .i64 0] 241))
 have HTK : Hid (∀ W t, PAt W b s t → POk s t → ∀ ok, Calls Tryz.prog 277 #[.pointer (some ⟨b, 0, none⟩), .bool ok] W (ParS b s (takeF s t ok) (.string (takeS t ok)) W)) := fun W t h k ok => take_calls_ b s t ok W h k hs
 have HNM : Hid (∀ W x, x.size ≤ 100000 → Calls Tryz.prog 289 #[.string x] W (BRet (.bool (nameB x)) W)) := fun W x hx => isName_calls x W (Nat.le_trans hx (by decide))
 have HVL : Hid (∀ W x, x.size ≤ 100000 → Calls Tryz.prog 291 #[.string x] W fun e w' => e = .returned (.bool (valueB x)) ∧ W = w') := fun W x hx => isValue_calls x W (Nat.le_trans hx (by decide))
 obtain ⟨c0, c1, c2, c3, c4, f1, f2, f3, f4⟩ := P0.cells
 obtain ⟨T, hTT⟩ : ∃ T, t.tok = T := ⟨_, rfl⟩
 rw [hTT] at c2
 have sT : T.size ≤ 100000 := by have := hok.at_; rw [hTT] at this; omega
 by_cases hT : t.tok = sTime
 · have HNU := Lib.hid (hT0 hT)
   have h1 : t.tok ≠ sTrue := by rw [hT]; decide
   have h2 : t.tok ≠ sHas := by rw [hT]; decide
   have e1 : (T.toList == [116, 114, 117, 101]) = false := (tokB _ [116, 114, 117, 101] sTrue rfl).trans (decide_eq_false (by rw [← hTT]; exact h1))
   have e2 : (T.toList == [104, 97, 115]) = false := (tokB _ [104, 97, 115] sHas rfl).trans (decide_eq_false (by rw [← hTT]; exact h2))
   have e4 : (T.toList == [116, 105, 109, 101]) = true := (tokB _ [116, 105, 109, 101] sTime rfl).trans (decide_eq_true (hTT.symm.trans hT))
   obtain ⟨t1, ht1⟩ : ∃ t1, takeF s t true = t1 := ⟨_, rfl⟩
   have hok1 : POk s t1 := by rw [← ht1]; exact hok.take true
   obtain ⟨T1, hT1⟩ : ∃ T1, t1.tok = T1 := ⟨_, rfl⟩
   obtain ⟨qa, hqa⟩ : ∃ qa, decide (T1 = sLt) = qa := ⟨_, rfl⟩
   obtain ⟨qb, hqb⟩ : ∃ qb, decide (T1 = sGt) = qb := ⟨_, rfl⟩
   have eqa : (T1.toList == [60]) = qa := (tokB _ [60] sLt rfl).trans hqa
   have eqb : (T1.toList == [62]) = qb := (tokB _ [62] sGt rfl).trans hqb
   obtain ⟨t2, ht2⟩ : ∃ t2, takeF s t1 (qa || qb) = t2 := ⟨_, rfl⟩
   have hok2 : POk s t2 := by rw [← ht2]; exact hok1.take _
   obtain ⟨T2, hT2⟩ : ∃ T2, t2.tok = T2 := ⟨_, rfl⟩
   have sT2 : T2.size ≤ 100000 := by have := hok2.at_; rw [hT2] at this; omega
   obtain ⟨n2, hn2⟩ : ∃ n2, (num T2).1 = n2 := ⟨_, rfl⟩
   obtain ⟨k2, hk2⟩ : ∃ k2, (num T2).2 = k2 := ⟨_, rfl⟩
   obtain ⟨x1, hx1⟩ : ∃ x1, takeS t1 (qa || qb) = x1 := ⟨_, rfl⟩
   have HR : Hid (atomF num s t = (⟨x1, ⟨#[]⟩, takeS t2 (k2 && !(outB n2 0 864000000)), n2⟩, takeF s t2 (k2 && !(outB n2 0 864000000)))) := by
    unfold atomF
    rw [if_neg h1, if_neg h2, if_pos hT]
    simp only [ht1, hT1, hqa, hqb, ht2, hT2, hn2, hk2, hx1, out_dec]
    exact Lib.hid trivial
   rw [HR.out]
   have HTA : Hid (∀ W, PAt W b s t → Calls Tryz.prog 277 #[.pointer (some ⟨b, 0, none⟩), .bool true] W (ParS b s t1 (.string (takeS t true)) W)) := fun W h => by rw [← ht1]; exact HTK.out W t h hok true
   have HTB : Hid (∀ W, PAt W b s t1 → Calls Tryz.prog 277 #[.pointer (some ⟨b, 0, none⟩), .bool (qa || qb)] W (ParS b s t2 (.string x1) W)) := fun W h => by rw [← ht2, ← hx1]; exact HTK.out W t1 h hok1 _
   have HTC : Hid (∀ W k, PAt W b s t2 → Calls Tryz.prog 277 #[.pointer (some ⟨b, 0, none⟩), .bool k] W (ParS b s (takeF s t2 k) (.string (takeS t2 k)) W)) := fun W k h => HTK.out W t2 h hok2 k
   have HNC : Hid (∀ W, Calls Tryz.prog 290 #[.string T2, .int .i64 9] W (BRet (.tuple #[.int .i64 n2, .bool k2]) W)) := fun W => by rw [← hn2, ← hk2]; exact HNU.out T2 W sT2
   have HT1 := Lib.hid hT1
   have HT2 := Lib.hid hT2
   have HQA := Lib.hid eqa
   have HQB := Lib.hid eqb
   obtain ⟨ob, hob⟩ : ∃ ob, outB n2 0 864000000 = ob := ⟨_, rfl⟩
   have HOB : Hid (∀ W, Calls Tryz.prog 104 #[.int .i64 n2, .int .i64 0, .int .i64 864000000] W fun e w' => e = .returned (.bool ob) ∧ W = w') := fun W => by rw [← hob]; exact out_calls _ _ _ _
   rw [hob]
   clear hTT h1 h2 hT hT0 ht1 hT1 hqa hqb ht2 hT2 hn2 hk2 hx1 eqa eqb HNU HTK HNM HVL hob
   go_enter Tryz.func279, Tryz.ntmps279
   go_wp2_with fail
   refine (HTA.out _ P0).mono ?_
   rintro e w2 ⟨rfl, P2, B2⟩
   have hS2 := hS0.call B2
   clear c0 c1 c2 c3 c4 f1 f2 f3 f4
   obtain ⟨c0, c1, c2, c3, c4, f1, f2, f3, f4⟩ := P2.cells
   rw [HT1.out] at c2
   have e5 := HQA.out
   have e6 := HQB.out
   cases qa <;> cases qb
   all_goals
    go_wp2_with fail
    refine (HTB.out _ P2).mono ?_
    rintro e w3 ⟨rfl, P3, B3⟩
    have hS3 := hS2.call B3
    clear c0 c1 c2 c3 c4 f1 f2 f3 f4
    obtain ⟨c0, c1, c2, c3, c4, f1, f2, f3, f4⟩ := P3.cells
    rw [HT2.out] at c2
    go_wp2_with fail
    refine (HNC.out _).mono ?_
    rintro e w4 ⟨rfl, b4⟩
    have hS4 := hS3.callB b4
    have P4 := P3.below b4
    clear c0 c1 c2 c3 c4 f1 f2 f3 f4
    cases k2
    · go_wp2_with fail
      refine (HTC.out _ _ P4).mono ?_
      rintro e w7 ⟨rfl, P7, B7⟩
      have hS7 := hS4.call B7
      obtain ⟨z0, z1, z2, z3, y0, y1, y2, y3⟩ := Blk.four (hS7.nth 0 rfl)
      have hS9 := hS7.four (.string x1) (.string ⟨#[]⟩) (.string (takeS t2 false)) (.int .i64 n2)
      have P9 := P7.four hbz (.string x1) (.string ⟨#[]⟩) (.string (takeS t2 false)) (.int .i64 n2)
      obtain ⟨r0, r1, r2, r3, _⟩ := Blk.four (hS9.nth 0 rfl)
      have hS10 := hS9.bx
      clear hS9 hS7
      go_wp2_with fail
      exact bodyPost_ret (v := .agg #[.string x1, .string ⟨#[]⟩, .string (takeS t2 false), .int .i64 n2]) (by simp [results, Tryz.results279, go_sem, r0, r1, r2, r3]) rfl ⟨rfl, P9, hS10⟩
    · go_wp2_with (first | (go_at_call 104; refine (HOB.out _).mono ?_; rintro e w5 ⟨rfl, rfl⟩))
      refine (HTC.out _ _ P4).mono ?_
      rintro e w7 ⟨rfl, P7, B7⟩
      have hS7 := hS4.call B7
      obtain ⟨z0, z1, z2, z3, y0, y1, y2, y3⟩ := Blk.four (hS7.nth 0 rfl)
      have hS9 := hS7.four (.string x1) (.string ⟨#[]⟩) (.string (takeS t2 (!ob))) (.int .i64 n2)
      have P9 := P7.four hbz (.string x1) (.string ⟨#[]⟩) (.string (takeS t2 (!ob))) (.int .i64 n2)
      obtain ⟨r0, r1, r2, r3, _⟩ := Blk.four (hS9.nth 0 rfl)
      have hS10 := hS9.bx
      clear hS9 hS7
      go_wp2_with fail
      exact bodyPost_ret (v := .agg #[.string x1, .string ⟨#[]⟩, .string (takeS t2 (!ob)), .int .i64 n2]) (by simp [results, Tryz.results279, go_sem, r0, r1, r2, r3]) rfl ⟨rfl, P9, hS10⟩
 clear hT0
 have e4 : (T.toList == [116, 105, 109, 101]) = false := (tokB _ [116, 105, 109, 101] sTime rfl).trans (decide_eq_false (by rw [← hTT]; exact hT))
 by_cases h1 : t.tok = sTrue
 · have e1 : (T.toList == [116, 114, 117, 101]) = true := (tokB _ [116, 114, 117, 101] sTrue rfl).trans (decide_eq_true (hTT.symm.trans h1))
   have HR : Hid (atomF num s t = (⟨sTrue, ⟨#[]⟩, ⟨#[]⟩, 0⟩, takeF s t true)) := by unfold atomF; rw [if_pos h1]; exact Lib.hid rfl
   rw [HR.out]
   clear hTT h1 hT
   go_enter Tryz.func279, Tryz.ntmps279
   go_wp2_with fail
   refine (HTK.out _ _ P0 hok true).mono ?_
   rintro e w2 ⟨rfl, P2, B2⟩
   have hS2 := hS0.call B2
   clear c0 c1 c2 c3 c4 f1 f2 f3 f4
   obtain ⟨z0, z1, z2, z3, y0, y1, y2, y3⟩ := Blk.four (hS2.nth 0 rfl)
   have hS3 := hS2.four (.string ⟨#[116, 114, 117, 101]⟩) (.string ⟨#[]⟩) (.string ⟨#[]⟩) (.int .i64 0)
   have P3 := P2.four hbz (.string ⟨#[116, 114, 117, 101]⟩) (.string ⟨#[]⟩) (.string ⟨#[]⟩) (.int .i64 0)
   obtain ⟨r0, r1, r2, r3, _⟩ := Blk.four (hS3.nth 0 rfl)
   have hS4 := hS3.bx
   clear hS3 hS2
   go_wp2_with fail
   exact bodyPost_ret (v := .agg #[.string ⟨#[116, 114, 117, 101]⟩, .string ⟨#[]⟩, .string ⟨#[]⟩, .int .i64 0]) (by simp [results, Tryz.results279, go_sem, r0, r1, r2, r3]) rfl ⟨rfl, P3, hS4⟩
 by_cases h2 : t.tok = sHas
 · have e1 : (T.toList == [116, 114, 117, 101]) = false := (tokB _ [116, 114, 117, 101] sTrue rfl).trans (decide_eq_false (by rw [← hTT]; exact h1))
   have e2 : (T.toList == [104, 97, 115]) = true := (tokB _ [104, 97, 115] sHas rfl).trans (decide_eq_true (hTT.symm.trans h2))
   obtain ⟨t1, ht1⟩ : ∃ t1, takeF s t true = t1 := ⟨_, rfl⟩
   have hok1 : POk s t1 := by rw [← ht1]; exact hok.take true
   obtain ⟨T1, hT1⟩ : ∃ T1, t1.tok = T1 := ⟨_, rfl⟩
   obtain ⟨nb, hnb⟩ : ∃ nb, nameB T1 = nb := ⟨_, rfl⟩
   have sT1 : T1.size ≤ 100000 := by have := hok1.at_; rw [hT1] at this; omega
   obtain ⟨x1, hx1⟩ : ∃ x1, takeS t1 nb = x1 := ⟨_, rfl⟩
   have HR : Hid (atomF num s t = (⟨sHas, x1, ⟨#[]⟩, 0⟩, takeF s t1 nb)) := by unfold atomF; rw [if_neg h1, if_pos h2, ht1, hT1, hnb, hx1]; exact Lib.hid rfl
   rw [HR.out]
   have HTA : Hid (∀ W, PAt W b s t1 → Calls Tryz.prog 277 #[.pointer (some ⟨b, 0, none⟩), .bool nb] W (ParS b s (takeF s t1 nb) (.string x1) W)) := fun W h => by rw [← hx1]; exact HTK.out W t1 h hok1 nb
   have HT1 := Lib.hid (HTK.out _ _ P0 hok true)
   rw [ht1] at HT1
   have HN1 : Hid (∀ W, Calls Tryz.prog 289 #[.string T1] W (BRet (.bool nb) W)) := fun W => by rw [← hnb]; exact HNM.out W T1 sT1
   have HTT := Lib.hid hT1
   clear hTT h1 h2 hT ht1 hT1 hnb HNM HTK hx1
   go_enter Tryz.func279, Tryz.ntmps279
   go_wp2_with fail
   refine HT1.out.mono ?_
   rintro e w2 ⟨rfl, P2, B2⟩
   have hS2 := hS0.call B2
   clear c0 c1 c2 c3 c4 f1 f2 f3 f4
   obtain ⟨c0, c1, c2, c3, c4, f1, f2, f3, f4⟩ := P2.cells
   rw [HTT.out] at c2
   go_wp2_with fail
   refine (HN1.out _).mono ?_
   rintro e w3 ⟨rfl, b3⟩
   have hS3 := hS2.callB b3
   have P3 := P2.below b3
   clear c0 c1 c2 c3 c4 f1 f2 f3 f4 hS2
   go_wp2_with fail
   refine (HTA.out _ P3).mono ?_
   rintro e w4 ⟨rfl, P4, B4⟩
   have hS4 := hS3.call B4
   obtain ⟨z0, z1, z2, z3, y0, y1, y2, y3⟩ := Blk.four (hS4.nth 0 rfl)
   have hS5 := hS4.four (.string ⟨#[104, 97, 115]⟩) (.string x1) (.string ⟨#[]⟩) (.int .i64 0)
   have P5 := P4.four hbz (.string ⟨#[104, 97, 115]⟩) (.string x1) (.string ⟨#[]⟩) (.int .i64 0)
   obtain ⟨r0, r1, r2, r3, _⟩ := Blk.four (hS5.nth 0 rfl)
   have hS6 := hS5.bx
   clear hS5 hS4 hS3
   go_wp2_with fail
   exact bodyPost_ret (v := .agg #[.string ⟨#[104, 97, 115]⟩, .string x1, .string ⟨#[]⟩, .int .i64 0]) (by simp [results, Tryz.results279, go_sem, r0, r1, r2, r3]) rfl ⟨rfl, P5, hS6⟩
 · have e1 : (T.toList == [116, 114, 117, 101]) = false := (tokB _ [116, 114, 117, 101] sTrue rfl).trans (decide_eq_false (by rw [← hTT]; exact h1))
   have e2 : (T.toList == [104, 97, 115]) = false := (tokB _ [104, 97, 115] sHas rfl).trans (decide_eq_false (by rw [← hTT]; exact h2))
   obtain ⟨nb, hnb⟩ : ∃ nb, nameB T = nb := ⟨_, rfl⟩
   obtain ⟨t1, ht1⟩ : ∃ t1, takeF s t nb = t1 := ⟨_, rfl⟩
   have hok1 : POk s t1 := by rw [← ht1]; exact hok.take nb
   obtain ⟨T1, hT1⟩ : ∃ T1, t1.tok = T1 := ⟨_, rfl⟩
   obtain ⟨q, hq⟩ : ∃ q, decide (T1 = sEq) = q := ⟨_, rfl⟩
   obtain ⟨t2, ht2⟩ : ∃ t2, takeF s t1 q = t2 := ⟨_, rfl⟩
   have hok2 : POk s t2 := by rw [← ht2]; exact hok1.take q
   obtain ⟨T2, hT2⟩ : ∃ T2, t2.tok = T2 := ⟨_, rfl⟩
   have sT2 : T2.size ≤ 100000 := by have := hok2.at_; rw [hT2] at this; omega
   obtain ⟨vb, hvb⟩ : ∃ vb, valueB T2 = vb := ⟨_, rfl⟩
   obtain ⟨x1, hx1⟩ : ∃ x1, takeS t nb = x1 := ⟨_, rfl⟩
   obtain ⟨x2, hx2⟩ : ∃ x2, takeS t2 vb = x2 := ⟨_, rfl⟩
   have HR : Hid (atomF num s t = (⟨sEq, x1, x2, 0⟩, takeF s t2 vb)) := by
    unfold atomF
    rw [if_neg h1, if_neg h2, if_neg hT]
    simp only [hTT, hnb, ht1, hT1, hq, ht2, hT2, hvb, hx1, hx2]
    exact Lib.hid trivial
   rw [HR.out]
   have HN1 : Hid (∀ W, Calls Tryz.prog 289 #[.string T] W (BRet (.bool nb) W)) := fun W => by rw [← hnb]; exact HNM.out W T sT
   have HV1 : Hid (∀ W, Calls Tryz.prog 291 #[.string T2] W fun e w' => e = .returned (.bool vb) ∧ W = w') := fun W => by rw [← hvb]; exact HVL.out W T2 sT2
   have HTA : Hid (∀ W, PAt W b s t → Calls Tryz.prog 277 #[.pointer (some ⟨b, 0, none⟩), .bool nb] W (ParS b s t1 (.string x1) W)) := fun W h => by rw [← ht1, ← hx1]; exact HTK.out W t h hok nb
   have HTB : Hid (∀ W, PAt W b s t1 → Calls Tryz.prog 277 #[.pointer (some ⟨b, 0, none⟩), .bool q] W (ParS b s t2 (.string (takeS t1 q)) W)) := fun W h => by rw [← ht2]; exact HTK.out W t1 h hok1 q
   have HTC : Hid (∀ W, PAt W b s t2 → Calls Tryz.prog 277 #[.pointer (some ⟨b, 0, none⟩), .bool vb] W (ParS b s (takeF s t2 vb) (.string x2) W)) := fun W h => by rw [← hx2]; exact HTK.out W t2 h hok2 vb
   have eq1 : (T1.toList == [61]) = q := (tokB _ [61] sEq rfl).trans hq
   have HT1 := Lib.hid hT1
   have HT2 := Lib.hid hT2
   have HQ := Lib.hid eq1
   clear hTT h1 h2 hT ht1 hT1 hnb HNM HVL HTK hx1 hx2 hvb hT2 ht2 hq eq1
   go_enter Tryz.func279, Tryz.ntmps279
   go_wp2_with fail
   refine (HN1.out _).mono ?_
   rintro e w2 ⟨rfl, b2⟩
   have hS2 := hS0.callB b2
   have P2 := P0.below b2
   clear c0 c1 c2 c3 c4 f1 f2 f3 f4
   go_wp2_with fail
   refine (HTA.out _ P2).mono ?_
   rintro e w3 ⟨rfl, P3, B3⟩
   have hS3 := hS2.call B3
   obtain ⟨c0, c1, c2, c3, c4, f1, f2, f3, f4⟩ := P3.cells
   rw [HT1.out] at c2
   have hlt3 := P3.lt
   have hb3 : b ≠ w3.heap.size := by omega
   have hS4 := hS3.add #[.string ⟨#[61]⟩, .string x1, .string ⟨#[]⟩, .int .i64 0] 241
   have P4 := P3.below ((Below.refl _ _).alloc (Nat.le_refl _) (.cells #[.string ⟨#[61]⟩, .string x1, .string ⟨#[]⟩, .int .i64 0] 241))
   go_wp2_with fail
   rw [HQ.out]
   refine (HTB.out _ P4).mono ?_
   rintro e w5 ⟨rfl, P5, B5⟩
   have hS5 := hS4.call B5
   clear c0 c1 c2 c3 c4 f1 f2 f3 f4 hS2 hS3 hS4 P4 P2
   obtain ⟨c0, c1, c2, c3, c4, f1, f2, f3, f4⟩ := P5.cells
   rw [HT2.out] at c2
   go_wp2_with fail
   refine (HV1.out _).mono ?_
   rintro e w6 ⟨rfl, rfl⟩
   go_wp2_with fail
   refine (HTC.out _ P5).mono ?_
   rintro e w7 ⟨rfl, P7, B7⟩
   have hS7 := hS5.call B7
   clear c0 c1 c2 c3 c4 f1 f2 f3 f4 hS5
   obtain ⟨z0, z1, z2, z3, y0, y1, y2, y3⟩ := Blk.four (hS7.nth 1 rfl)
   obtain ⟨v0, v1, v2, v3, u0, u1, u2, u3⟩ := Blk.four (hS7.nth 0 rfl)
   have hS9 := (((hS7.set_ 2 (.string x2)).front 1 rfl rfl).four (.string ⟨#[61]⟩) (.string x1) (.string x2) (.int .i64 0))
   have P9 := (P7.far hb3 2 (.string x2)).four hbz (.string ⟨#[61]⟩) (.string x1) (.string x2) (.int .i64 0)
   obtain ⟨r0, r1, r2, r3, _⟩ := Blk.four (hS9.nth 0 rfl)
   have hS10 := hS9.bx
   have hzz : w.heap.size ≠ w3.heap.size := by have := hS7.ge 0 rfl (g := w3.heap.size) rfl; have := B3.size; have := b2.size; simp at *; omega
   clear hS9 hS7
   go_wp2_with fail
   exact bodyPost_ret (v := .agg #[.string ⟨#[61]⟩, .string x1, .string x2, .int .i64 0]) (by simp [results, Tryz.results279, go_sem, r0, r1, r2, r3]) rfl ⟨rfl, P9, hS10⟩
end Go.Proofs.YtapgnaimbgjcnaaGreatDoor
