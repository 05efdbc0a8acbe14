/-
  Lives of the stream to the letter. (Turned out of XLive17 by a program.)
-/
import Derived.Test.YthbcogekfdllmaaGreatDoorZSlot5
import Derived.Test.YthbcogekfdllmaaGreatDoorZOrdX
import Derived.Test.YthbcogekfdllmaaGreatDoorZSmX
namespace Go.Proofs.YthbcogekfdllmaaGreatDoor
open Go Go.RowKit
attribute [local go_sem ↓] Go.wp_at_zero Go.wp_at_succ

theorem spx_some {zs : ZsT} {w W : World} {b p : Nat} {l : List Rsc} (h : SpX zs w b p W l) (i : Nat) {g n : Nat} {t : TypeId} (xs : List ByteArray) {cs : Array Value} (hi : l[i]? = some (rBlk g t cs)) (hx : cs.toList = xs.map Value.string) (h0 : 0 < n) (hn : n ≤ maxLen) (hs : cs.size = n) (hp : p ≤ 1000000) :
    Calls Tryz.prog 45 #[.pointer (some ⟨b, 0, none⟩), .slice (some ⟨g, 0, none⟩) n n] W (SpXS zs (.string (smX zs p xs)) w b (p + 1) l) := by
  have hr := blkRd (b := b) 1 n (h.nth i hi) (h.ne i hi) hn (by omega)
  rw [hx] at hr
  exact (someX_calls b p zs _ n n xs _ h0 hr h.strm hp).mono (fun _e _w' ⟨he, hs, hb⟩ => ⟨he, h.call hs hb⟩)
def keyAt (keys : List ByteArray) (v : Value) : ByteArray := keys[(intOf v).toNat]?.getD ⟨#[]⟩
theorem keys_drop {idx : List Value} {xs : List Slt} {k i : Nat} {x : Slt} (hk : k < idx.length) (hz : idx[k] = .int .i64 (i : Int)) (hi : i < xs.length) (hx : xs[i] = x) : (idx.map (keyAt (xs.map (·.key)))).drop k = x.key :: (idx.map (keyAt (xs.map (·.key)))).drop (k + 1) := by
  rw [List.drop_eq_getElem_cons (by rw [List.length_map]; exact hk), List.getElem_map, hz]
  congr 1
  unfold keyAt
  rw [show (intOf (.int .i64 (i : Int))).toNat = i by simp [intOf], List.getElem?_map, List.getElem?_eq_getElem hi, hx]
  rfl
def lvX (zs : ZsT) : List ByteArray → Nat → Int → List Lv → Nat × Int × List Lv
  | [], r, a, ys => (r, a, ys)
  | x :: kl, r, a, ys =>
    if (nxX zs r 3 == 0) = true then lvX zs kl (r + 1) a ys
    else if (nxX zs (r + 1) 4 == 0) = true then lvX zs kl (r + 1 + 1) a (ys ++ [(a, 3, x)])
    else if (nxX zs (r + 1 + 1 + 1) 6 == 0) = true then (r + 1 + 1 + 1 + 1, a + pkX zs (r + 1 + 1) [0, 5, 60, 120, 300], ys ++ [(a, 1, x)])
    else lvX zs kl (r + 1 + 1 + 1 + 1 + 1) (a + pkX zs (r + 1 + 1) [0, 5, 60, 120, 300] + pkX zs (r + 1 + 1 + 1 + 1) [0, 0, 10]) (ys ++ [(a, 1, x)] ++ [(a + pkX zs (r + 1 + 1) [0, 5, 60, 120, 300], 2, x)])
section
variable {zs : ZsT} {kl : List ByteArray} {x : ByteArray} {r : Nat} {a d d2 : Int} {ys : List Lv}
theorem lv_skip (h3 : (nxX zs r 3 == 0) = true) : lvX zs (x :: kl) r a ys = lvX zs kl (r + 1) a ys := by rw [lvX, if_pos h3]
theorem lv_out (h3 : (nxX zs r 3 == 0) = false) (h4 : (nxX zs (r + 1) 4 == 0) = true) : lvX zs (x :: kl) r a ys = lvX zs kl (r + 1 + 1) a (ys ++ [(a, 3, x)]) := by rw [lvX, if_neg (by rw [h3]; decide), if_pos h4]
theorem lv_stop (h3 : (nxX zs r 3 == 0) = false) (h4 : (nxX zs (r + 1) 4 == 0) = false) (hd : pkX zs (r + 1 + 1) [0, 5, 60, 120, 300] = d) (h6 : (nxX zs (r + 1 + 1 + 1) 6 == 0) = true) : lvX zs (x :: kl) r a ys = (r + 1 + 1 + 1 + 1, a + d, ys ++ [(a, 1, x)]) := by
  rw [lvX, if_neg (by rw [h3]; decide), if_neg (by rw [h4]; decide), if_pos h6, hd]
theorem lv_go (h3 : (nxX zs r 3 == 0) = false) (h4 : (nxX zs (r + 1) 4 == 0) = false) (hd : pkX zs (r + 1 + 1) [0, 5, 60, 120, 300] = d) (h6 : (nxX zs (r + 1 + 1 + 1) 6 == 0) = false) (hd2 : pkX zs (r + 1 + 1 + 1 + 1) [0, 0, 10] = d2) : lvX zs (x :: kl) r a ys = lvX zs kl (r + 1 + 1 + 1 + 1 + 1) (a + d + d2) (ys ++ [(a, 1, x)] ++ [(a + d, 2, x)]) := by
  rw [lvX, if_neg (by rw [h3]; decide), if_neg (by rw [h4]; decide), if_neg (by rw [h6]; decide), hd, hd2]
end
def lvAll (zs : ZsT) (p : Nat) (keys : List ByteArray) : Nat × Int × List Lv := lvX zs ((ordV zs (p + 1) keys.length).map (keyAt keys)) (p + 1 + (keys.length - 1)) (pkX zs p [0, 0, 5]) []
/-- Lives to the letter: the position behind, and the list -/
def livX (zs : ZsT) (p : Nat) (keys : List ByteArray) : Nat × List Lv :=
  if (lvAll zs p keys).2.2.length = 0 then ((lvAll zs p keys).1, (lvAll zs p keys).2.2)
  else if (nxX zs (lvAll zs p keys).1 8 == 0) = true then ((lvAll zs p keys).1 + 1 + 1 + 2 + 2 + 1, (lvAll zs p keys).2.2.set (nxX zs ((lvAll zs p keys).1 + 1) ((lvAll zs p keys).2.2.length : Int)).toNat
    (oddX zs ((lvAll zs p keys).1 + 1 + 1) 0 300, oddX zs ((lvAll zs p keys).1 + 1 + 1 + 2) 1 3, smX zs ((lvAll zs p keys).1 + 1 + 1 + 2 + 2) [((lvAll zs p keys).2.2[(nxX zs ((lvAll zs p keys).1 + 1) ((lvAll zs p keys).2.2.length : Int)).toNat]?.getD (0, 0, ⟨#[]⟩)).2.2, ⟨#[122, 122]⟩, ⟨#[115, 97]⟩]))
  else ((lvAll zs p keys).1 + 1, (lvAll zs p keys).2.2)
section
variable {zs : ZsT} {keys : List ByteArray} {p r j : Nat} {a o q : Int} {ys : List Lv} {y : Lv} {s : ByteArray}
theorem livX_none (h : lvAll zs p keys = (r, a, ys)) (h0 : ys.length = 0) : livX zs p keys = (r, ys) := by unfold livX; rw [h]; exact if_pos h0
theorem livX_same (h : lvAll zs p keys = (r, a, ys)) (h0 : ¬ ys.length = 0) (hf : (nxX zs r 8 == 0) = false) : livX zs p keys = (r + 1, ys) := by
  unfold livX
  rw [h, if_neg h0, if_neg (by rw [hf]; decide)]
theorem livX_hit (h : lvAll zs p keys = (r, a, ys)) (hj : j < ys.length) (hf : (nxX zs r 8 == 0) = true) (hjv : nxX zs (r + 1) (ys.length : Int) = (j : Int)) (hy : ys[j] = y) (ho : oddX zs (r + 1 + 1) 0 300 = o) (hq : oddX zs (r + 1 + 1 + 2) 1 3 = q) (hs : smX zs (r + 1 + 1 + 2 + 2) [y.2.2, ⟨#[122, 122]⟩, ⟨#[115, 97]⟩] = s) :
    livX zs p keys = (r + 1 + 1 + 2 + 2 + 1, ys.set j (o, q, s)) := by
  unfold livX
  simp only [h]
  rw [if_neg (show ¬ ys.length = 0 by omega), if_pos hf, hjv, Int.toNat_natCast, List.getElem?_eq_getElem hj, hy, ho, hq, ← hs]
  rfl
end
theorem livesX_field3 {zs : ZsT} {w W : World} {b K g n c j : Nat} {ys : List Lv} (h : SpX zs w b K W [rOwn w.heap.size 84 3 (.slice (some ⟨g, 0, none⟩) n c) n (ys.flatMap lvC)]) (hn : n = ys.length) (hj : j < ys.length) (a k : Int) (s : ByteArray) :
    SpX zs w b K (((W.setCell ⟨g, j * 3, none⟩ (.int .i64 a)).setCell ⟨g, j * 3 + 1, none⟩ (.int .i64 k)).setCell ⟨g, j * 3 + 2, none⟩ (.string s)) [rOwn w.heap.size 84 3 (.slice (some ⟨g, 0, none⟩) n c) n ((ys.set j (a, k, s)).flatMap lvC)] := by
  subst hn
  have h1 := h.field lvC 3 lvC_len j 0 hj (by omega) (.int .i64 a) (a, ys[j].2.1, ys[j].2.2) rfl
  have h2 := h1.field lvC 3 lvC_len j 1 (by rw [List.length_set]; exact hj) (by omega) (.int .i64 k) (a, k, ys[j].2.2) (by rw [List.getElem_set_self]; rfl)
  have h3 := h2.field lvC 3 lvC_len j 2 (by rw [List.length_set, List.length_set]; exact hj) (by omega) (.string s) (a, k, s) (by rw [List.getElem_set_self]; rfl)
  simp only [List.length_set, List.set_set] at h3
  exact h3
/-- what is live, in new memory, to the letter -/
def LivesX (zs : ZsT) (b p : Nat) (keys : List ByteArray) (n : Nat) (w : World) (e : Ending) (w' : World) : Prop :=
  ∃ (v : Value) (ys : List Lv) (r : Nat), e = .returned v ∧ livX zs p keys = (r, ys) ∧ ys.length ≤ 2 * n ∧ LvOks ys ∧ r ≤ p + 6 * n + 20 ∧ SpX zs w b r w' [rOwn w.heap.size 84 3 v ys.length (ys.flatMap lvC)]
set_option maxRecDepth 100000 in
set_option maxHeartbeats 2000000 in
theorem livesX_calls (b p0 : Nat) (zs : ZsT) (A : Option Addr) (n c : Nat) (xs : List Slt) (w : World) (hs : StrmX w b zs p0) (hK : p0 ≤ 800000) (hr : Slts w b A n c xs) (hn : n ≤ 100) :
    Calls Tryz.prog 17 #[.pointer (some ⟨b, 0, none⟩), .slice A n c] w (LivesX zs b p0 (xs.map (·.key)) n w) := by
  obtain ⟨hl, hnc, hcm, hcells⟩ := hr.rd.cells sltC_len (by omega)
  obtain ⟨i0, hi, hz0, hz1, hz2⟩ := info_parts info_lv
  unfold maxLen at hcm
  have HL := Lib.hid hl
  have HC := Lib.hid hcells
  have HR := Lib.hid hr
  clear hcells hl hr
  go_enter Tryz.func17, Tryz.ntmps17
  go_wp2_with fail
  refine (spx_pickL (SpX.start hs) [0, 0, 5] #[.int .i64 0, .int .i64 0, .int .i64 5] 3 3 rfl (by decide) (by decide) rfl (by omega)).mono ?_
  rintro e w1 ⟨rfl, hS1⟩
  obtain ⟨ha0, ha5⟩ := pkX_bd zs p0 [0, 0, 5] 0 5 (by decide) (by decide)
  obtain ⟨a0, hae⟩ : ∃ a0, pkX zs p0 [0, 0, 5] = a0 := ⟨_, rfl⟩
  rw [hae] at ha0 ha5 ⊢
  have HAE := Lib.hid hae
  clear hae
  go_wp2_with fail
  refine (orderX_calls b _ zs n _ (by omega) hS1.strm (by omega)).mono ?_
  rintro e w2 ⟨v, rfl, hown, hnum, hs2, hb2⟩
  obtain ⟨idx, hie⟩ : ∃ idx, ordV zs (p0 + 1) n = idx := ⟨_, rfl⟩
  rw [hie] at hown hnum
  have HIE := Lib.hid hie
  obtain ⟨T, hT⟩ : ∃ T, lvX zs (idx.map (keyAt (xs.map (·.key)))) (p0 + 1 + (n - 1)) a0 [] = T := ⟨_, rfl⟩
  have HT := Lib.hid hT
  clear hie hT
  have hS2 := (hS1.own hs2 hb2 hown).nil w.heap.size 84 3
  clear hS1 hs2 hb2 hs
  obtain ⟨AI, cI, hv⟩ := own_form hown
  subst hv
  go_upto_block 0 with (fail)
  go_cut [5] (fun s5 W => ∃ (ys : List Lv) (r : Nat) (a : Int), ys.length ≤ 2 * n ∧ LvOks ys ∧ r ≤ p0 + 6 * n + 5 ∧ Hid (T = (r, a, ys)) ∧ SpX zs w b r W [rOwn w.heap.size 84 3 s5 ys.length (ys.flatMap lvC)])
  case first =>
    clear hown
    go_wp2_with fail
    go_loopw [5, 6, 18] (fun v s6 i wr => ∃ (k r : Nat) (ys : List Lv) (a : Int), k ≤ n ∧ i = .int .i64 k ∧ s6 = .int .i64 a ∧ 0 ≤ a ∧ a ≤ 5 + 310 * (k : Int) ∧ ys.length ≤ 2 * k ∧ LvOks ys ∧ r ≤ p0 + 1 + n + 5 * k ∧ Hid (lvX zs ((idx.map (keyAt (xs.map (·.key)))).drop k) r a ys = T) ∧ SpX zs w b r wr [rOwn w.heap.size 84 3 v ys.length (ys.flatMap lvC), rOwn w.heap.size 3 1 (.slice AI n cI) n idx]) (fun _ _ i _ => n - (intOf i).toNat)
    case atStart => exact ⟨0, p0 + 1 + (n - 1), [], a0, Nat.zero_le _, rfl, rfl, ha0, by simpa using ha5, by simp, (by intro y hy; cases hy), by omega, HT, hS2⟩
    case round =>
      clear hS2
      obtain ⟨k, r, ys, a, hk, rfl, rfl, hal, hau, hyl, hyo, hrk, HP, hS⟩ := hrel
      by_cases hlt : k < n
      · have hidx : wr.ownsRow w.heap.size 3 1 (.slice AI n cI) n idx := hS.nth 1 rfl
        obtain ⟨gi, ci, hv, _⟩ := hidx.form (by omega)
        injection hv with hAI _ hcI
        subst hAI hcI
        have hxl := hidx.1
        obtain ⟨z, hz, z0, z4⟩ := hnum _ (List.getElem_mem (show k < idx.length by omega))
        obtain ⟨i, rfl⟩ := Int.eq_ofNat_of_zero_le z0
        have ck : wr.cell? ⟨gi, k, none⟩ = some (.int .i64 i) := by rw [hidx.cellAt k (by omega), List.getElem?_eq_getElem (by omega), hz]
        have hin : i < n := by omega
        have hix : i < xs.length := by rw [HL.out]; exact hin
        obtain ⟨g, o, hA, hgb, hcs⟩ := HC.out (by omega)
        subst hA
        obtain ⟨x, hx⟩ : ∃ x, xs[i] = x := ⟨_, rfl⟩
        have HXK : Hid (∀ W, Bx w.heap.size b w W → W.cell? ⟨g, o + i * 5, none⟩ = some (.string x.key)) := fun W hW => by
          have := hcs i hix 0 (by omega)
          rw [hx] at this
          exact hW.cell this hgb
        have hkd : (idx.map (keyAt (xs.map (·.key)))).drop k = x.key :: (idx.map (keyAt (xs.map (·.key)))).drop (k + 1) := keys_drop (by omega) hz hix hx
        have HP1 : Hid (lvX zs (x.key :: (idx.map (keyAt (xs.map (·.key)))).drop (k + 1)) r a ys = T) := Lib.hid (hkd ▸ HP.out)
        clear hkd HP
        have hxk : x.key.size ≤ 1000 := by rw [← hx]; exact (HR.out.ok _ (List.getElem_mem hix)).hk
        have hk0 : (0 : Int) ≤ (k : Int) := by omega
        have hkn : (k : Int) < (n : Int) := by omega
        have hi0 : (0 : Int) ≤ (i : Int) := by omega
        have hii : (i : Int) < (n : Int) := by omega
        clear hidx hcs hx hz hxl
        go_wp2_with fail
        refine (spx_flip hS 3 (by omega) (by omega) (by omega)).mono ?_
        rintro e w3 ⟨rfl, hS3⟩
        obtain ⟨f3, hf3⟩ : ∃ f, (nxX zs r 3 == 0) = f := ⟨_, rfl⟩
        rw [hf3]
        have HF3 := Lib.hid hf3
        clear hf3
        clear hS ck
        cases f3
        · go_wp2_with fail
          refine (spx_flip hS3 4 (by omega) (by omega) (by omega)).mono ?_
          rintro e w4 ⟨rfl, hS4⟩
          obtain ⟨f4, hf4⟩ : ∃ f, (nxX zs (r + 1) 4 == 0) = f := ⟨_, rfl⟩
          rw [hf4]
          have HF4 := Lib.hid hf4
          clear hf4
          clear hS3
          have x4 := HXK.out w4 hS4.bx
          have hsz4 := hS4.size
          have HO : w4.ownsRow w.heap.size 84 3 u5 ys.length (ys.flatMap lvC) := hS4.head
          cases f4
          · go_wp2_with (first
              | (at_builtin; refine wpList_append_own_at _ rfl _ _ 51 rfl w.heap.size 84 i0 (.agg #[.int .i64 0, .int .i64 0, .string ⟨#[]⟩]) 3 32 Tryz.underlying51 hi hz0 hz1 hz2 rfl (by decide) _ _ _ rfl (HO.alloc _) ⟨w4.heap.size, 0, none⟩ 1 1 [.int .i64 a, .int .i64 1, .string x.key] rfl rfl (World.news_of_block (heap_alloc_new _ _)) (one3' rfl rfl rfl) (by unfold maxLen; omega) (by omega) (by simp; omega) ?_; intro v' w8 hown' hgrow _ hblk; have hS8 := (hS4.alloc _).append hown' hgrow hblk; clear hown' hgrow hblk))
            have hS9 : SpX zs w b (r + 1 + 1) w8 [rOwn w.heap.size 84 3 v' (ys ++ [(a, 1, x.key)]).length ((ys ++ [(a, 1, x.key)]).flatMap lvC), rOwn w.heap.size 3 1 (.slice (some ⟨gi, 0, none⟩) n cI) n idx] := by
              rw [flat_snoc, List.length_append]; exact hS8
            clear hS8 HO x4 hS4
            refine (spx_pickL hS9 [0, 5, 60, 120, 300] #[.int .i64 0, .int .i64 5, .int .i64 60, .int .i64 120, .int .i64 300] 3 5 rfl (by decide) (by decide) rfl (by omega)).mono ?_
            rintro e w9 ⟨rfl, hS10⟩
            obtain ⟨hd0, hd1⟩ := pkX_bd zs (r + 1 + 1) [0, 5, 60, 120, 300] 0 300 (by decide) (by decide)
            obtain ⟨d, hd⟩ : ∃ d, pkX zs (r + 1 + 1) [0, 5, 60, 120, 300] = d := ⟨_, rfl⟩
            rw [hd] at hd0 hd1 ⊢
            have HD5 := Lib.hid hd
            clear hd
            clear hS9
            go_wp2_with fail
            refine (spx_flip hS10 6 (by omega) (by omega) (by omega)).mono ?_
            rintro e w10 ⟨rfl, hS11⟩
            obtain ⟨f6, hf6⟩ : ∃ f, (nxX zs (r + 1 + 1 + 1) 6 == 0) = f := ⟨_, rfl⟩
            rw [hf6]
            have HF6 := Lib.hid hf6
            clear hf6
            clear hS10
            have hy1 := hyo.snoc (y := (a, 1, x.key)) ⟨⟨by simp; omega, by simp; omega⟩, ⟨by simp, by simp⟩, hxk⟩
            cases f6
            · have x9 := HXK.out w10 hS11.bx
              have hsz9 := hS11.size
              obtain ⟨Q, hQ⟩ : ∃ Q, ys ++ [(a, 1, x.key)] = Q := ⟨_, rfl⟩
              have hQl : Q.length = ys.length + 1 := by rw [← hQ]; simp
              have HQE := Lib.hid hQ
              rw [hQ] at hS11 hy1
              have HO2 : w10.ownsRow w.heap.size 84 3 v' Q.length (Q.flatMap lvC) := hS11.head
              have HQL := Lib.hid hQl
              have hQb : Q.length ≤ 2 * k + 1 := by omega
              clear hQ hQl
              go_wp2_with (first
                | (at_builtin; refine wpList_append_own_at _ rfl _ _ 51 rfl w.heap.size 84 i0 (.agg #[.int .i64 0, .int .i64 0, .string ⟨#[]⟩]) 3 32 Tryz.underlying51 hi hz0 hz1 hz2 rfl (by decide) _ _ _ rfl (HO2.alloc _) ⟨w10.heap.size, 0, none⟩ 1 1 [.int .i64 (a + d), .int .i64 2, .string x.key] rfl rfl (World.news_of_block (heap_alloc_new _ _)) (one3' rfl rfl rfl) (by unfold maxLen; omega) (by omega) (by simp; omega) ?_; intro v2 w11 hown' hgrow _ hblk; have hS12 := (hS11.alloc _).append hown' hgrow hblk; clear hown' hgrow hblk))
              have hS13 : SpX zs w b (r + 1 + 1 + 1 + 1) w11 [rOwn w.heap.size 84 3 v2 (Q ++ [(a + d, 2, x.key)]).length ((Q ++ [(a + d, 2, x.key)]).flatMap lvC), rOwn w.heap.size 3 1 (.slice (some ⟨gi, 0, none⟩) n cI) n idx] := by
                rw [flat_snoc, List.length_append]; exact hS12
              refine (spx_pickL hS13 [0, 0, 10] #[.int .i64 0, .int .i64 0, .int .i64 10] 3 3 rfl (by decide) (by decide) rfl (by omega)).mono ?_
              rintro e w12 ⟨rfl, hS14⟩
              obtain ⟨he0, he1⟩ := pkX_bd zs (r + 1 + 1 + 1 + 1) [0, 0, 10] 0 10 (by decide) (by decide)
              obtain ⟨d2, hd2⟩ : ∃ d, pkX zs (r + 1 + 1 + 1 + 1) [0, 0, 10] = d := ⟨_, rfl⟩
              rw [hd2] at he0 he1 ⊢
              have HP2 : Hid (lvX zs ((idx.map (keyAt (xs.map (·.key)))).drop (k + 1)) (r + 1 + 1 + 1 + 1 + 1) (a + d + d2) (Q ++ [(a + d, 2, x.key)]) = T) := Lib.hid (by rw [← HQE.out]; exact (lv_go HF3.out HF4.out HD5.out HF6.out hd2).symm.trans HP1.out)
              clear hd2
              clear hS13 hS12 hS11 HO2
              go_wp2_with fail
              go_roundw
              case rel => exact ⟨k + 1, r + 1 + 1 + 1 + 1 + 1, _, a + d + d2, by omega, by go_num, rfl, by omega, by omega, by simp; omega, hy1.snoc (y := (a + d, 2, x.key)) ⟨⟨by simp; omega, by simp; omega⟩, ⟨by simp, by simp⟩, hxk⟩, by omega, HP2, hS14⟩
              case measure => simp [intOf]; omega
            · go_wp2_with fail
              go_meet
              exact ⟨_, r + 1 + 1 + 1 + 1, a + d, by simp; omega, hy1, by omega, Lib.hid (HP1.out.symm.trans (lv_stop HF3.out HF4.out HD5.out HF6.out)), hS11.drop 1 rfl rfl⟩
          · go_wp2_with (first
              | (at_builtin; refine wpList_append_own_at _ rfl _ _ 51 rfl w.heap.size 84 i0 (.agg #[.int .i64 0, .int .i64 0, .string ⟨#[]⟩]) 3 32 Tryz.underlying51 hi hz0 hz1 hz2 rfl (by decide) _ _ _ rfl (HO.alloc _) ⟨w4.heap.size, 0, none⟩ 1 1 [.int .i64 a, .int .i64 3, .string x.key] rfl rfl (World.news_of_block (heap_alloc_new _ _)) (one3' rfl rfl rfl) (by unfold maxLen; omega) (by omega) (by simp; omega) ?_; intro v' w8 hown' hgrow _ hblk; have hS8 := (hS4.alloc _).append hown' hgrow hblk; clear hown' hgrow hblk))
            have hS9 : SpX zs w b (r + 1 + 1) w8 [rOwn w.heap.size 84 3 v' (ys ++ [(a, 3, x.key)]).length ((ys ++ [(a, 3, x.key)]).flatMap lvC), rOwn w.heap.size 3 1 (.slice (some ⟨gi, 0, none⟩) n cI) n idx] := by
              rw [flat_snoc, List.length_append]; exact hS8
            go_roundw
            case rel => exact ⟨k + 1, r + 1 + 1, _, a, by omega, by go_num, rfl, hal, by omega, by simp; omega, hyo.snoc (y := (a, 3, x.key)) ⟨⟨by simp; omega, by simp; omega⟩, ⟨by simp, by simp⟩, hxk⟩, by omega, Lib.hid ((lv_out HF3.out HF4.out).symm.trans HP1.out), hS9⟩
            case measure => simp [intOf]; omega
        · go_wp2_with fail
          go_roundw
          case rel => exact ⟨k + 1, r + 1, ys, a, by omega, by go_num, rfl, hal, by omega, by omega, hyo, by omega, Lib.hid ((lv_skip HF3.out).symm.trans HP1.out), hS3⟩
          case measure => simp [intOf]; omega
      · obtain rfl : k = n := by omega
        go_wp2_with fail
        go_meet
        have hlen : idx.length = k := (show wr.ownsRow w.heap.size 3 1 (.slice AI k cI) k idx from hS.nth 1 rfl).1.trans (Nat.mul_one k)
        exact ⟨ys, r, a, hyl, hyo, by omega, Lib.hid (by have h := HP.out; rw [List.drop_of_length_le (by rw [List.length_map]; omega)] at h; exact h.symm), hS.drop 1 rfl rfl⟩
  case rest =>
    obtain ⟨ys, r, a, hyn, hyo, hrk, HTE, hS⟩ := hcut
    have HLV : Hid (lvAll zs p0 (xs.map (·.key)) = (r, a, ys)) := Lib.hid (by unfold lvAll; rw [List.length_map, HL.out, HIE.out, HAE.out, HT.out, HTE.out])
    have hLn := HL.out
    have ho : World.ownsRow wc _ _ _ _ _ _ := hS.head
    obtain ⟨A5, c5, hv⟩ := own_form ho
    subst hv
    clear ho
    obtain ⟨L, hL⟩ : ∃ L, ys.length = L := ⟨_, rfl⟩
    rw [hL] at hS hyn ⊢
    by_cases h0 : L = 0
    · subst h0
      go_wp2_with fail
      go_ret
      exact ⟨_, ys, r, rfl, livX_none HLV.out (by omega), by omega, hyo, by omega, by rw [hL]; exact hS⟩
    · have hl0 : (0 : Int) < (L : Int) := by omega
      go_wp2_with fail
      refine (spx_flip hS 8 (by omega) (by omega) (by omega)).mono ?_
      rintro e w3 ⟨rfl, hS3⟩
      obtain ⟨fv, hfv⟩ : ∃ f, (nxX zs r 8 == 0) = f := ⟨_, rfl⟩
      rw [hfv]
      have HF8 := Lib.hid hfv
      clear hfv
      clear hS
      cases fv
      · go_wp2_with fail
        go_ret
        exact ⟨_, ys, r + 1, rfl, livX_same HLV.out (by omega) HF8.out, by omega, hyo, by omega, by rw [hL]; exact hS3⟩
      · go_wp2_with fail
        refine (spx_next hS3 L (by omega) (by omega) (by omega)).mono ?_
        rintro e w4 ⟨rfl, hS4⟩
        obtain ⟨jv0, jv1⟩ := nxX_bd zs (r + 1) (n := (L : Int)) (by omega)
        obtain ⟨jv, hjv⟩ : ∃ j, nxX zs (r + 1) (L : Int) = j := ⟨_, rfl⟩
        rw [hjv] at jv0 jv1 ⊢
        obtain ⟨j, rfl⟩ := Int.eq_ofNat_of_zero_le jv0
        have HJV := Lib.hid hjv
        clear hjv
        have hjl : j < L := by omega
        have hjr : j < ys.length := by omega
        obtain ⟨g, cap, hv, _⟩ := World.ownsRow.form (show w4.ownsRow _ _ _ (.slice A5 L c5) L _ from hS4.head) (by omega)
        injection hv with hA _ hc
        subst hA hc
        have hj0 : (0 : Int) ≤ (j : Int) := by omega
        have hj1 : (j : Int) < (L : Int) := by omega
        clear hS3
        go_wp2_with fail
        obtain ⟨y, hy⟩ : ∃ y, ys[j] = y := ⟨_, rfl⟩
        have hyk : y.2.2.size ≤ 1000 := by rw [← hy]; exact (hyo _ (List.getElem_mem hjr)).2.2
        obtain ⟨m0, m1, m2, n0, n1, n2⟩ := lvD ys y w.heap.size w4 g L c5 j hS4.head hjr hjl hy
        have HD : Hid (∀ W l K', SpX zs w b K' W l → l[l.length - 1]? = some (rOwn w.heap.size 84 3 (.slice (some ⟨g, 0, none⟩) L c5) L (ys.flatMap lvC)) →
            W.cell? ⟨g, j * 3, none⟩ = some (.int .i64 y.1) ∧ W.cell? ⟨g, j * 3 + 1, none⟩ = some (.int .i64 y.2.1) ∧ W.cell? ⟨g, j * 3 + 2, none⟩ = some (.string y.2.2) ∧
            W.frozen? ⟨g, j * 3, none⟩ = false ∧ W.frozen? ⟨g, j * 3 + 1, none⟩ = false ∧ W.frozen? ⟨g, j * 3 + 2, none⟩ = false) := fun W l K' h hl => lvD ys y w.heap.size W g L c5 j (h.nth _ hl) hjr hjl hy
        obtain ⟨o1a, o1b⟩ := oddX_bd zs (r + 1 + 1) 0 300 (by decide) (by decide) (by decide)
        obtain ⟨p, hpe⟩ : ∃ p, oddX zs (r + 1 + 1) 0 300 = p := ⟨_, rfl⟩
        obtain ⟨o2a, o2b⟩ := oddX_bd zs (r + 1 + 1 + 2) 1 3 (by decide) (by decide) (by decide)
        obtain ⟨q, hqe⟩ : ∃ q, oddX zs (r + 1 + 1 + 2) 1 3 = q := ⟨_, rfl⟩
        obtain ⟨s1, hse⟩ : ∃ s1, smX zs (r + 1 + 1 + 2 + 2) [y.2.2, ⟨#[122, 122]⟩, ⟨#[115, 97]⟩] = s1 := ⟨_, rfl⟩
        have hs1 : s1.size ≤ 1000 := by
          have hm := smX_mem zs (r + 1 + 1 + 2 + 2) [y.2.2, ⟨#[122, 122]⟩, ⟨#[115, 97]⟩] (by simp)
          rw [hse] at hm
          simp only [List.mem_cons, List.not_mem_nil, or_false] at hm
          rcases hm with rfl | rfl | rfl
          · exact hyk
          · show 2 ≤ 1000; omega
          · show 2 ≤ 1000; omega
        rw [hpe] at o1a o1b
        rw [hqe] at o2a o2b
        have HO1 : Hid (∀ W l, SpX zs w b (r + 1 + 1) W l → Calls Tryz.prog 63 #[.pointer (some ⟨b, 0, none⟩), .int .i64 0, .int .i64 300] W (SpXS zs (.int .i64 p) w b (r + 1 + 1 + 2) l)) := Lib.hid (fun W l h => by rw [← hpe]; exact spx_odd h 0 300 (by omega) (by omega) (by omega) (by omega))
        have HO2 : Hid (∀ W l, SpX zs w b (r + 1 + 1 + 2) W l → Calls Tryz.prog 63 #[.pointer (some ⟨b, 0, none⟩), .int .i64 1, .int .i64 3] W (SpXS zs (.int .i64 q) w b (r + 1 + 1 + 2 + 2) l)) := Lib.hid (fun W l h => by rw [← hqe]; exact spx_odd h 1 3 (by omega) (by omega) (by omega) (by omega))
        have HS0 : Hid (∀ W, SpX zs w b (r + 1 + 1 + 2 + 2) W [rOwn w.heap.size 84 3 (.slice (some ⟨g, 0, none⟩) L c5) L (ys.flatMap lvC)] → Calls Tryz.prog 45 #[.pointer (some ⟨b, 0, none⟩), .slice (some ⟨W.heap.size, 0, none⟩) 3 3] (W.alloc (.cells #[.string y.2.2, .string ⟨#[122, 122]⟩, .string ⟨#[115, 97]⟩] 9)) (SpXS zs (.string s1) w b (r + 1 + 1 + 2 + 2 + 1) [rOwn w.heap.size 84 3 (.slice (some ⟨g, 0, none⟩) L c5) L (ys.flatMap lvC)])) := Lib.hid (fun W h => by
          rw [← hse]
          exact spx_someL h [y.2.2, ⟨#[122, 122]⟩, ⟨#[115, 97]⟩] #[.string y.2.2, .string ⟨#[122, 122]⟩, .string ⟨#[115, 97]⟩] 9 3 rfl (by decide) (by decide) rfl (by omega))
        have HS1 : Hid (∀ W G, SpX zs w b (r + 1 + 1 + 2 + 2) W [rBlk G 9 #[.string y.2.2, .string ⟨#[122, 122]⟩, .string ⟨#[115, 97]⟩], rOwn w.heap.size 84 3 (.slice (some ⟨g, 0, none⟩) L c5) L (ys.flatMap lvC)] → Calls Tryz.prog 45 #[.pointer (some ⟨b, 0, none⟩), .slice (some ⟨G, 0, none⟩) 3 3] W (SpXS zs (.string s1) w b (r + 1 + 1 + 2 + 2 + 1) [rOwn w.heap.size 84 3 (.slice (some ⟨g, 0, none⟩) L c5) L (ys.flatMap lvC)])) := Lib.hid (fun W G h => by
          rw [← hse]
          exact (spx_some h 0 (g := G) (n := 3) (t := 9) [y.2.2, ⟨#[122, 122]⟩, ⟨#[115, 97]⟩] (cs := #[.string y.2.2, .string ⟨#[122, 122]⟩, .string ⟨#[115, 97]⟩]) rfl rfl (by decide) (by decide) rfl (by omega)).mono (fun e w' ⟨he, hs⟩ => ⟨he, hs.tail⟩))
        have HFI : Hid (livX zs p0 (xs.map (·.key)) = (r + 1 + 1 + 2 + 2 + 1, ys.set j (p, q, s1))) := Lib.hid (livX_hit HLV.out hjr HF8.out (by rw [hL]; exact HJV.out) hy hpe hqe hse)
        clear hpe hqe hse
        have hT0 := hS4.drew
        have hT0a := (hS4.add #[.string y.2.2, .string ⟨#[122, 122]⟩, .string ⟨#[115, 97]⟩] 9).drew
        have HYO := Lib.hid hyo
        have hlY : L = ys.length := hL.symm
        have HLY := Lib.hid hlY
        clear hS4 hy hyo hL hlY hyk
        go_region_law (first
          | (go_simp; go_at_call 63; ((with_reducible refine (HO1.out _ _ hT0).mono ?_); rintro e w5 ⟨rfl, hT1⟩; obtain ⟨m0, m1, m2, n0, n1, n2⟩ := HD.out _ _ _ hT1 rfl))
          | (go_simp; go_at_call 63; ((with_reducible refine (HO1.out _ _ hT0a).mono ?_); rintro e w5 ⟨rfl, hT1⟩; obtain ⟨m0, m1, m2, n0, n1, n2⟩ := HD.out _ _ _ hT1 rfl))
          | (go_simp; go_at_call 63; ((with_reducible refine (HO2.out _ _ hT1).mono ?_); rintro e w6 ⟨rfl, hT2⟩; obtain ⟨m0, m1, m2, n0, n1, n2⟩ := HD.out _ _ _ hT2 rfl))
          | (go_simp; go_at_call 63; ((with_reducible refine (HO2.out _ _ (hT1.add #[.string y.2.2, .string ⟨#[122, 122]⟩, .string ⟨#[115, 97]⟩] 9)).mono ?_); rintro e w6 ⟨rfl, hT2⟩; obtain ⟨m0, m1, m2, n0, n1, n2⟩ := HD.out _ _ _ hT2 rfl))
          | (go_simp; go_at_call 45; ((with_reducible refine (HS0.out _ hT2).mono ?_); rintro e w7 ⟨rfl, hU⟩; obtain ⟨m0, m1, m2, n0, n1, n2⟩ := HD.out _ _ _ hU rfl))
          | (go_simp; go_at_call 45; ((with_reducible refine (HS1.out _ _ hT2).mono ?_); rintro e w7 ⟨rfl, hU⟩; obtain ⟨m0, m1, m2, n0, n1, n2⟩ := HD.out _ _ _ hU rfl)))
        all_goals
          have hV := livesX_field3 hU HLY.out hjr p q s1
          go_wp2_with fail
          go_ret
          refine ⟨_, ys.set j (p, q, s1), _, rfl, HFI.out, by rw [List.length_set, ← HLY.out]; omega, HYO.out.set j ⟨(⟨by omega, by omega⟩ : -2199023255552 ≤ p ∧ p ≤ 2199023255552), (⟨by omega, by omega⟩ : -2199023255552 ≤ q ∧ q ≤ 2199023255552), hs1⟩, by omega, ?_⟩
          rw [List.length_set, ← HLY.out]
          exact hV
end Go.Proofs.YthbcogekfdllmaaGreatDoor
