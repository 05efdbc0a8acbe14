/-
  splitref2.ResultsOf by its contract.
-/
import Derived.Test.YthbcogekfdllmaaGreatZQf5
namespace Go.Proofs.YthbcogekfdllmaaGreat
open Go Go.RowKit
attribute [local go_sem ↓] Go.wp_at_zero Go.wp_at_succ

theorem RngS.ne {w : World} {kt : TypeId} {b r n : Nat} {f : ByteArray → Option Value} {seen : List ByteArray} {cnt : Nat} (h : RngS w kt b r n f seen cnt) : b ≠ r := by
  obtain ⟨D, lf, ⟨es, clock, since, sn, c0, e1, e2, e3, e4, e5, e6⟩, h2⟩ := h
  intro e
  subst e
  rw [e1] at e5
  cases e5
/-- two ranges under way over one map -/
def rRng2 (kt : TypeId) (b r r2 n : Nat) (f : ByteArray → Option Value) (seen : List ByteArray) (cnt : Nat) (seen2 : List ByteArray) (cnt2 : Nat) : Rsc :=
  ⟨fun W => RngS W kt b r n f seen cnt ∧ RngS W kt b r2 n f seen2 cnt2 ∧ r ≠ r2, fun k => k = b ∨ k = r ∨ k = r2⟩
theorem rRng2_ok (kt : TypeId) (b r r2 n : Nat) (f : ByteArray → Option Value) (seen : List ByteArray) (cnt : Nat) (seen2 : List ByteArray) (cnt2 : Nat) : (rRng2 kt b r r2 n f seen cnt seen2 cnt2).Ok :=
  fun _ _ h hp => ⟨hp.1.block (h b (.inl rfl)) (h r (.inr (.inl rfl))), hp.2.1.block (h b (.inl rfl)) (h r2 (.inr (.inr rfl))), hp.2.2⟩
theorem Sq.rngIn {w W W' : World} {l : List Rsc} {kt : TypeId} {b r n : Nat} {f : ByteArray → Option Value} {seen : List ByteArray} {cnt cnt2 : Nat} (h : Sq w W (rRng kt b r n f seen cnt :: l)) (hr : RngS W' kt b W.heap.size n f [] cnt2) (hg : W.grownBy W' none) : Sq w W' (rRng2 kt b r W.heap.size n f seen cnt [] cnt2 :: l) := by
  have h0 : RngS W kt b r n f seen cnt := h.head
  have hlt := h0.lt
  have h1 : RngS W' kt b r n f seen cnt := h0.block (hg.block b hlt.1 (by simp)) (hg.block r hlt.2 (by simp))
  exact h.turn hg (fun k hk => by cases hk) ⟨h1, hr, by omega⟩ (rRng2_ok _ _ _ _ _ _ _ _ _ _) (fun k hk => by
    rcases hk with hk | hk | hk
    · subst hk; exact ⟨.inl (.inl rfl), h1.lt.1⟩
    · subst hk; exact ⟨.inl (.inr rfl), h1.lt.2⟩
    · subst hk; exact ⟨.inr (Nat.le_refl _), hr.lt.2⟩)
theorem Sq.rngIn2 {w W W' : World} {l : List Rsc} {kt : TypeId} {b r r2 n : Nat} {f : ByteArray → Option Value} {seen : List ByteArray} {cnt : Nat} {seen2 seen3 : List ByteArray} {cnt2 cnt3 : Nat} (h : Sq w W (rRng2 kt b r r2 n f seen cnt seen2 cnt2 :: l)) (hr : RngS W' kt b r2 n f seen3 cnt3) (hg : W.grownBy W' (some r2)) : Sq w W' (rRng2 kt b r r2 n f seen cnt seen3 cnt3 :: l) := by
  obtain ⟨h0, h2, h3⟩ : RngS W kt b r n f seen cnt ∧ RngS W kt b r2 n f seen2 cnt2 ∧ r ≠ r2 := h.head
  have hlt := h0.lt
  have hne := h2.ne
  have h1 : RngS W' kt b r n f seen cnt := h0.block (hg.block b hlt.1 (by simpa using hne)) (hg.block r hlt.2 (by simpa using h3))
  exact h.turn hg (fun k hk => by injection hk with hk; exact .inr (.inr hk.symm)) ⟨h1, hr, h3⟩ (rRng2_ok _ _ _ _ _ _ _ _ _ _) (fun k hk => by
    rcases hk with hk | hk | hk
    · subst hk; exact ⟨.inl (.inl rfl), h1.lt.1⟩
    · subst hk; exact ⟨.inl (.inr (.inl rfl)), h1.lt.2⟩
    · subst hk; exact ⟨.inl (.inr (.inr rfl)), hr.lt.2⟩)
theorem Sq.rngOut {w W : World} {l : List Rsc} {kt : TypeId} {b r r2 n : Nat} {f : ByteArray → Option Value} {seen : List ByteArray} {cnt : Nat} {seen2 : List ByteArray} {cnt2 : Nat} (h : Sq w W (rRng2 kt b r r2 n f seen cnt seen2 cnt2 :: l)) : Sq w W (rRng kt b r n f seen cnt :: l) := by
  have h0 : RngS W kt b r n f seen cnt := (show RngS W kt b r n f seen cnt ∧ RngS W kt b r2 n f seen2 cnt2 ∧ r ≠ r2 from h.head).1
  exact ⟨h.below, h.hp.tail.cons h0 (rRng_ok _ _ _ _ _ _ _) (fun k hk => h.hp.new _ (List.mem_cons_self ..) k (by rcases hk with hk | hk; exact .inl hk; exact .inr (.inl hk)))
    (fun s hs k hk hk2 => (List.pairwise_cons.1 h.hp.apart).1 s hs k (by rcases hk with hk | hk; exact .inl hk; exact .inr (.inl hk)) hk2)⟩
/-- the end that is noted -/
def enV (G : QF) (s : ByteArray) : Int := (G.en s).getD 0
theorem enV_bd {G : QF} (h : TQ G) (s : ByteArray) : 0 ≤ enV G s ∧ enV G s ≤ 345686399999 := by
  unfold enV
  cases he : G.en s with
  | none => exact ⟨by decide, by decide⟩
  | some v => exact h.en s v he
theorem qfE_get (G : QF) (s : ByteArray) : (qfE G s).getD (.int .i64 0) = .int .i64 (enV G s) := by
  unfold qfE enV
  cases G.en s <;> rfl
theorem dQ_done {G : QF} {s : ByteArray} (h : G.hw s = some 3) : dQ G s = some (enV G s) := by unfold dQ; rw [if_pos h]; rfl
theorem dQ_not {G : QF} {s : ByteArray} {c : Nat} (h : G.hw s = some c) (hc : c ≠ 3) : dQ G s = none := by unfold dQ; rw [if_neg (by rw [h]; intro e; exact hc (Option.some.inj e))]
theorem resQ_ok {G : QF} (_hK : KQ G) {seen : List ByteArray} (hp : seen.Perm G.ks) {ys : List Res} (hy : ys.Perm (seen.map (rsE G.ks (dQ G) G.at0))) (hu : ys.Pairwise (fun a b => 0 ≤ cfR (dQ G) b a)) : ResR G.ks (dQ G) G.at0 ys :=
  ⟨hy.trans (hp.map _), hu⟩
def RsqS (r : QF) (w : World) (e : Ending) (w' : World) : Prop :=
  ∃ (v : Value) (ys : List Res), e = .returned (.tuple #[v, .int .i64 (if r.at0 < 0 then 11 else 0)]) ∧ (0 ≤ r.at0 → ResR r.ks (dQ r) r.at0 ys) ∧ (r.at0 < 0 → ys = []) ∧ w'.ownsRow w.heap.size 57 3 v ys.length (ys.flatMap resC) ∧ Below w.heap.size w w'
set_option maxRecDepth 100000 in
set_option maxHeartbeats 4000000 in
theorem resultsQ_calls (b : Nat) (A : Option Addr) (n c : Nat) (l : List Stp) (w : World) (hr : Rd w b 3 (.slice A n c) n (l.flatMap stC)) (hok : StOk l) (hn : n ≤ 1000) :
    Calls Tryz.prog 17 #[.slice A n c] w (RsqS (rfolQ l 345686400000).1 w) := by
  have HFO := Lib.hid (contestAt_calls b A n c l 345686400000 w hr hok hn)
  have HTQ := Lib.hid (rfolQ_TQ 345686400000 hok)
  obtain ⟨i0, hi, hi0, hi1, hi2⟩ := info_parts info_res
  obtain ⟨r, hr0⟩ : ∃ r, rfolQ l 345686400000 = r := ⟨_, rfl⟩
  rw [hr0] at HFO HTQ ⊢
  clear hr hok hr0
  go_enter Tryz.func17, Tryz.ntmps17
  go_wp2_with fail
  refine HFO.out.mono ?_
  rintro e w2 ⟨g, m, N, m2, N2, A1, c1, rfl, hK, hN, hN2, hb, hS0⟩
  have HKG := Lib.hid hK
  obtain ⟨G, bad⟩ := r
  obtain ⟨k0, bad⟩ := bad
  obtain ⟨a0, ha0⟩ : ∃ a0, G.at0 = a0 := ⟨_, rfl⟩
  simp only at hS0 HKG HTQ ⊢
  have HA0 : Hid (G.at0 = a0) := ha0
  have hab : -1 ≤ a0 ∧ a0 ≤ 345686399999 := by rw [← ha0]; exact HTQ.out.a0
  unfold conL at hS0
  rw [ha0] at hS0
  have hSx : Sq w w2 (rBlk g 91 #[.int .i64 a0, .map (some m), .map (some m2)] :: rMap 9 m N (qfH G) :: rMap 9 m2 N2 (qfE G) :: []) := hS0.drop 3 rfl rfl
  have HKN := Lib.hid ((MapS.size_eq Tryz.underlying9 (show MapS w2 9 m N (qfH G) from hSx.nth 1 rfl) HKG.out.keys).1)
  clear hS0 hK hb HFO
  go_upto_region 2 with (fail)
  have hSB := hSx.add #[.pointer (some ⟨g, 0, none⟩)] 85
  obtain ⟨w3, hw3⟩ : ∃ z, z = w2.alloc (.cells #[.pointer (some ⟨g, 0, none⟩)] 85) := ⟨_, rfl⟩
  obtain ⟨gB, hgB⟩ : ∃ z, z = w2.heap.size := ⟨_, rfl⟩
  rw [← hgB] at hSB ⊢
  rw [← hw3] at hSB ⊢
  clear hSx hw3 hgB
  have cB : w3.cell? ⟨gB, 0, none⟩ = some (.pointer (some ⟨g, 0, none⟩)) := (hSB.nth 0 rfl : Blk w3 gB _ _).cell 0
  have cg0 : w3.cell? ⟨g, 0, none⟩ = some (.int .i64 a0) := (hSB.nth 1 rfl : Blk w3 g _ _).cell 0
  have cg1 : w3.cell? ⟨g, 1, none⟩ = some (.map (some m)) := (hSB.nth 1 rfl : Blk w3 g _ _).cell 1
  by_cases hneg : a0 < 0
  · have hfin := hSB.below
    have hO := (hSB.nil w.heap.size 57 3).head
    have HO := Lib.hid hO
    have HV : Hid ((if (G, k0, bad).1.at0 < 0 then 11 else 0 : Int) = 11) := Lib.hid (if_pos (by show G.at0 < 0; rw [ha0]; exact hneg))
    clear hO hSB ha0
    go_wp2_with fail
    go_ret2
    exact ⟨.slice none 0 0, [], by rw [HV.out]; rfl, fun h => absurd h (by have := HA0.out; show ¬ 0 ≤ G.at0; omega), fun _ => rfl, HO.out, hfin⟩
  · have h0a : 0 ≤ a0 := by omega
    have HV : Hid ((if (G, k0, bad).1.at0 < 0 then 11 else 0 : Int) = 0) := Lib.hid (if_neg (by show ¬ G.at0 < 0; rw [ha0]; exact hneg))
    clear hneg
    have hS1 : Sq w w3 (rMap 9 m N (qfH G) :: rBlk gB 85 #[.pointer (some ⟨g, 0, none⟩)] :: rBlk g 91 #[.int .i64 a0, .map (some m), .map (some m2)] :: rMap 9 m2 N2 (qfE G) :: []) := hSB.front 2 rfl rfl
    have HMP : MapS w3 9 m N (qfH G) := hS1.head
    clear hSB ha0
    go_wp2_with (first
      | (at_range; refine wpList_range_map _ rfl _ 88 rfl 9 9 Tryz.underlying9 Tryz.underlying88 m N (qfH G) rfl HMP ?_; intro w4 cnt0 hr0 hg0 hs0))
    have hS4 := (hS1.rngStart hr0 hg0).nil w.heap.size 57 3
    obtain ⟨r, hr⟩ : ∃ r, r = w3.heap.size := ⟨_, rfl⟩
    rw [← hr] at hS4 ⊢
    clear hS1 hr0 hg0 hs0 HMP hr cB cg0 cg1
    go_loopw [6] (fun v wq => ∃ (A' : Option Addr) (c' : Nat) (seen : List ByteArray) (cnt : Nat), v = .slice A' seen.length c' ∧ Hid (∀ s ∈ seen, s ∈ G.ks) ∧ Sq w wq (rOwn w.heap.size 57 3 (.slice A' seen.length c') seen.length ((seen.map (rsE G.ks (dQ G) G.at0)).flatMap resC) :: rRng 9 m r N (qfH G) seen cnt :: rBlk gB 85 #[.pointer (some ⟨g, 0, none⟩)] :: rBlk g 91 #[.int .i64 a0, .map (some m), .map (some m2)] :: rMap 9 m2 N2 (qfE G) :: [])) (fun _ wq => wq.rangeLeft m r)
    case atStart => exact ⟨none, 0, [], cnt0, rfl, Lib.hid (fun s hs => by cases hs), hS4⟩
    case round =>
      clear hS4
      obtain ⟨A', c', seen, cnt, rfl, HM, hS⟩ := hrel
      have hrg : RngS wr 9 m r N (qfH G) seen cnt := hS.nth 1 rfl
      have hlen : seen.length ≤ G.ks.length := seen_leR seen G.ks hrg.nodup HM.out
      have hln : seen.length ≤ N := Nat.le_trans hlen HKN.out
      obtain ⟨q, hq⟩ : ∃ q, q = seen.length := ⟨_, rfl⟩
      have HQ := Lib.hid hq
      rw [← hq] at hS hln ⊢
      clear hq hlen
      go_wp2_with (first
        | (at_next; refine wpList_next_map _ rfl _ rfl 9 Tryz.underlying9 m r N (qfH G) seen cnt rfl hrg ?_ ?_))
      · intro hdone
        have HP := Lib.hid (HKG.out.keys.seen hrg.nodup HM.out hdone)
        clear hrg hdone
        by_cases h0 : q = 0
        · subst h0
          have hs0 : seen = [] := List.length_eq_zero_iff.1 HQ.out.symm
          have HS0 := Lib.hid hs0
          have HSO := Lib.hid (fun W cb => sortRsE_none W A' c' cb)
          have hfin := hS.below
          have hO := hS.head
          have HO := Lib.hid hO
          have HRS : Hid (ResR G.ks (dQ G) G.at0 []) := Lib.hid (resQ_ok HKG.out HP.out (by rw [HS0.out]; exact List.Perm.refl _) List.Pairwise.nil)
          clear hS hs0 hO
          go_wp2_with (first | (go_at_call 41; refine (HSO.out _ _).mono ?_; rintro e w5 ⟨rfl, rfl⟩))
          go_ret2
          refine ⟨_, [], by rw [HV.out]; rfl, fun _ => HRS.out, fun h => absurd h (by have := HA0.out; show ¬ G.at0 < 0; omega), ?_, hfin⟩
          have h1 : World.ownsRow _ _ _ _ _ _ _ := HO.out
          rw [HS0.out] at h1
          exact h1
        · obtain ⟨g5, cap, hv, _⟩ := World.ownsRow.form (show wr.ownsRow w.heap.size 57 3 (.slice A' q c') q _ from hS.head) (by omega)
          injection hv with hA _ hc
          subst hA
          have hap := (List.pairwise_cons.1 hS.hp.apart).1
          have hCP : ∀ x ∈ seen.map (rsE G.ks (dQ G) G.at0), CmpP G x := fun x hx => by
            obtain ⟨t, ht, rfl⟩ := List.mem_map.1 hx
            refine ⟨HM.out t ht, ?_⟩
            have hb1 := enV_bd HTQ.out t
            have hb2 := HTQ.out.a0
            show -400000000000 ≤ tmE (dQ G) G.at0 t ∧ tmE (dQ G) G.at0 t ≤ 400000000000
            unfold tmE
            by_cases h3 : G.hw t = some 3
            · rw [dQ_done h3]; simp only; omega
            · rw [show dQ G t = none by unfold dQ; rw [if_neg h3]]; simp only; omega
          have hne0 : ∃ x, CmpP G x := by
            cases hs : seen with
            | nil => exact absurd (HQ.out.trans (by rw [hs]; rfl)) h0
            | cons t ts => exact ⟨rsE G.ks (dQ G) G.at0 t, hCP _ (List.mem_map.2 ⟨t, by rw [hs]; exact List.mem_cons_self .., rfl⟩)⟩
          have bB : Blk wr gB 85 #[.pointer (some ⟨g, 0, none⟩)] := hS.nth 2 rfl
          have bg : Blk wr g 91 #[.int .i64 a0, .map (some m), .map (some m2)] := hS.nth 3 rfl
          have HSO := Lib.hid (sortRsE_calls w wr g5 q c' (seen.map (rsE G.ks (dQ G) G.at0)) _ (by omega) g m N m2 gB G HKG.out hCP hne0
            (fun e => hap (rBlk gB 85 #[.pointer (some ⟨g, 0, none⟩)]) (by simp) gB (by rw [e]; rfl) rfl)
            (fun e => hap (rBlk g 91 #[.int .i64 a0, .map (some m), .map (some m2)]) (by simp) g (by rw [e]; rfl) rfl)
            (fun e => hap (rRng 9 m r N (qfH G) seen cnt) (by simp) m (by rw [e]; rfl) (.inl rfl))
            (bB.cell 0) (by rw [HA0.out]; exact bg) (show RngS wr 9 m r N (qfH G) seen cnt from hS.nth 1 rfl).map hS)
          clear hS hc hap hCP hne0 bB bg
          go_wp2_with (first | (go_at_call 41; refine HSO.out.mono ?_; rintro e w5 ⟨rfl, ys, hy, hu, hS5⟩))
          have HYL : Hid (ys.length = q) := Lib.hid (by rw [hy.length_eq, List.length_map, HQ.out])
          have HEN := Lib.hid (resQ_ok HKG.out HP.out hy hu)
          have HO := hS5.head
          have hfin := hS5.below
          clear hy hu hS5
          go_ret2
          exact ⟨_, ys, by rw [HV.out]; rfl, fun _ => HEN.out, fun h => absurd h (by have := HA0.out; show ¬ G.at0 < 0; omega), by rw [HYL.out]; exact HO, hfin⟩
      · intro s v w5 cnt2 hnew hsl hf hrg2 hlt2 hg2 hs2 hen
        obtain ⟨c, he, rfl⟩ := Option.map_eq_some_iff.1 hf
        have hsk : s ∈ G.ks := (HKG.out.iff s).2 (by rw [he]; rfl)
        have hc4 : c ≤ 4 := HKG.out.c4 s c he
        have hsz := HKG.out.sz s hsk
        have hS2 : Sq w w5 (rRng 9 m r N (qfH G) (seen ++ [s]) cnt2 :: rOwn w.heap.size 57 3 (.slice A' q c') q ((seen.map (rsE G.ks (dQ G) G.at0)).flatMap resC) :: rBlk gB 85 #[.pointer (some ⟨g, 0, none⟩)] :: rBlk g 91 #[.int .i64 a0, .map (some m), .map (some m2)] :: rMap 9 m2 N2 (qfE G) :: []) := (hS.front 1 rfl rfl).rngStep hrg2 hg2
        have hl2 : wr.rangeLeft m r = cnt := hrg.left
        obtain ⟨hb, hhb⟩ : ∃ hb, hb = hwB c := ⟨_, rfl⟩
        obtain ⟨dn, hdn⟩ : ∃ dn, decide (c = 3) = dn := ⟨_, rfl⟩
        have hBB : (hb.toList == [100, 111, 110, 101]) = dn := (litB hb [100, 111, 110, 101] (hwB 3) rfl).trans (by rw [← hdn]; exact decide_eq_decide.2 ⟨fun h => hwB_inj hc4 (by decide) (hhb ▸ h), fun h => by rw [hhb, h]⟩)
        have hen2 : (Instr.entry (.pointer (some ⟨r, 0, none⟩))).run Tryz.prog w5 = .ok (.tuple #[.string s, .string hb]) w5 := by rw [hhb]; exact hen
        have HM2 : Hid (∀ x ∈ seen ++ [s], x ∈ G.ks) := Lib.hid (fun x hx => by
          rcases List.mem_append.1 hx with hx | hx
          · exact HM.out x hx
          · simp at hx; subst hx; exact hsk)
        have HD1 : Hid (dn = true → dQ G s = some (enV G s)) := Lib.hid (fun h => dQ_done (by rw [he, of_decide_eq_true (hdn.trans h)]))
        have HD0 : Hid (dn = false → dQ G s = none) := Lib.hid (fun h => dQ_not he (of_decide_eq_false (hdn.trans h)))
        have HL2 := Lib.hid hlt2
        have hS3 := hS2.add #[.int .i64 1, .string s, .int .i64 0] 57
        obtain ⟨w6, hw6⟩ : ∃ z, z = w5.alloc (.cells #[.int .i64 1, .string s, .int .i64 0] 57) := ⟨_, rfl⟩
        obtain ⟨gR, hgR⟩ : ∃ z, z = w5.heap.size := ⟨_, rfl⟩
        obtain ⟨tm, htm⟩ : ∃ tm, tmE (dQ G) G.at0 s = tm := ⟨_, rfl⟩
        obtain ⟨ev, hev⟩ : ∃ ev, enV G s = ev := ⟨_, rfl⟩
        have hevb : 0 ≤ ev ∧ ev ≤ 345686399999 := by rw [← hev]; exact enV_bd HTQ.out s
        have HTM := Lib.hid htm
        have HEV := Lib.hid hev
        rw [← hgR, ← hw6] at hS3
        clear hS hrg hg2 hs2 hf hen hnew HM hhb he hsk hdn hrg2 hS2 htm hev
        go_upto_if 35 with (fail)
        rw [← hgR, ← hw6]
        clear hgR hw6
        obtain ⟨L0, hL0⟩ : ∃ z, z = (rRng 9 m r N (qfH G) (seen ++ [s]) cnt2 :: rOwn w.heap.size 57 3 (.slice A' q c') q ((seen.map (rsE G.ks (dQ G) G.at0)).flatMap resC) :: rBlk gB 85 #[.pointer (some ⟨g, 0, none⟩)] :: rBlk g 91 #[.int .i64 a0, .map (some m), .map (some m2)] :: rMap 9 m2 N2 (qfE G) :: []) := ⟨_, rfl⟩
        rw [← hL0] at hS3
        have HL0 := Lib.hid hL0
        have HSP : Hid (∀ W rr, Sq w W (rr :: L0) → W.cell? ⟨gB, 0, none⟩ = some (.pointer (some ⟨g, 0, none⟩)) ∧ W.cell? ⟨g, 0, none⟩ = some (.int .i64 a0) ∧ W.cell? ⟨g, 2, none⟩ = some (.map (some m2)) ∧ (Instr.lookup 89 (.map (some m2)) (.string s) false).run Tryz.prog W = .ok (.int .i64 ev) W) := Lib.hid (fun W rr h => by
          rw [HL0.out] at h
          have b1 : Blk W gB 85 #[.pointer (some ⟨g, 0, none⟩)] := h.nth 3 rfl
          have b2 : Blk W g 91 #[.int .i64 a0, .map (some m), .map (some m2)] := h.nth 4 rfl
          have b3 : MapS W 9 m2 N2 (qfE G) := h.nth 5 rfl
          have h1 := b3.look (t := 89) (e := 3) Tryz.underlying9 Tryz.underlying89 (zero_intM W) (s := s) hsl
          rw [qfE_get, HEV.out] at h1
          exact ⟨b1.cell 0, b2.cell 0, b2.cell 2, h1⟩)
        clear hL0
        go_cut [] (fun W => Sq w W (rBlk gR 57 #[.int .i64 1, .string s, .int .i64 tm] :: L0))
        case first =>
          cases dn with
          | true =>
            have HT : Hid (tm = ev - a0) := Lib.hid (by rw [← HTM.out]; unfold tmE; rw [HD1.out rfl, HEV.out, HA0.out])
            have HR : Hid (Sq w (w6.drew.setCell ⟨gR, 2, none⟩ (.int .i64 (ev - a0))) (rBlk gR 57 #[.int .i64 1, .string s, .int .i64 tm] :: L0)) := Lib.hid (by
              have h := hS3.drew.set_ 2 (.int .i64 (ev - a0))
              rw [HT.out]
              exact h)
            have hd1 := HSP.out _ _ hS3.drew
            have hd0 := HSP.out _ _ hS3
            have cR : w6.drew.cell? ⟨gR, 2, none⟩ = some (.int .i64 0) := (hS3.drew.head : Blk _ gR _ _).cell 2
            have cR0 : w6.cell? ⟨gR, 2, none⟩ = some (.int .i64 0) := (hS3.head : Blk _ gR _ _).cell 2
            clear hBB
            go_upto_region 10 with (fail)
            have hd2 := HSP.out _ _ HR.out
            have hwr : IntKind.i64.wrap (ev - a0) = ev - a0 := IntWalk.i64_in _ (by omega)
            have fR : w6.frozen? ⟨gR, 2, none⟩ = false := (hS3.head : Blk _ gR _ _).frozen 2
            go_region_held3 (fun W => W.cell? ⟨gB, 0, none⟩ = some (.pointer (some ⟨g, 0, none⟩)) ∧ W.cell? ⟨g, 0, none⟩ = some (.int .i64 a0) ∧ W.cell? ⟨g, 2, none⟩ = some (.map (some m2)) ∧ (Instr.lookup 89 (.map (some m2)) (.string s) false).run Tryz.prog W = .ok (.int .i64 ev) W)
              (first | exact hd1 | exact hd0 | exact hd2 | go_keep) (fail)
            go_wp2_with fail
            go_meet
            exact HR.out
          | false =>
            have HT : Hid (tm = 0) := Lib.hid (by rw [← HTM.out]; unfold tmE; rw [HD0.out rfl])
            rw [← HT.out] at hS3
            go_wp2_with fail
            go_meet
            exact hS3
        case rest =>
          rw [HL0.out] at hcut
          obtain ⟨w7, hw7⟩ : ∃ z, z = wc := ⟨_, rfl⟩
          subst hw7
          have hS5 : Sq w w7 (rRng 9 m r N (qfH G) (seen ++ [s]) cnt2 :: rBlk gR 57 #[.int .i64 1, .string s, .int .i64 tm] :: rOwn w.heap.size 57 3 (.slice A' q c') q ((seen.map (rsE G.ks (dQ G) G.at0)).flatMap resC) :: rBlk gB 85 #[.pointer (some ⟨g, 0, none⟩)] :: rBlk g 91 #[.int .i64 a0, .map (some m), .map (some m2)] :: rMap 9 m2 N2 (qfE G) :: []) := hcut.front 1 rfl rfl
          have bB : Blk w7 gB 85 #[.pointer (some ⟨g, 0, none⟩)] := hS5.nth 3 rfl
          have bg : Blk w7 g 91 #[.int .i64 a0, .map (some m), .map (some m2)] := hS5.nth 4 rfl
          have cB := bB.cell 0
          have cg1 := bg.cell 1
          have HMP : MapS w7 9 m N (qfH G) := (show RngS w7 9 m r N (qfH G) (seen ++ [s]) cnt2 from hS5.head).map
          clear HSP hcut HL0 hS3 bB bg
          go_wp2_with (first
            | (at_range; refine wpList_range_map _ rfl _ 88 rfl 9 9 Tryz.underlying9 Tryz.underlying88 m N (qfH G) rfl HMP ?_; intro w8 cnt8 hr8 hg8 hs8))
          have hS8 := hS5.rngIn hr8 hg8
          obtain ⟨r2, hr2⟩ : ∃ r2, r2 = w7.heap.size := ⟨_, rfl⟩
          rw [← hr2] at hS8 ⊢
          clear hS5 hr8 hg8 hs8 HMP hr2 cB cg1
          go_frame
          go_loopw [] (fun wq => ∃ (sn : List ByteArray) (cn : Nat), Hid (∀ x ∈ sn, x ∈ G.ks) ∧ Sq w wq (rRng2 9 m r r2 N (qfH G) (seen ++ [s]) cnt2 sn cn :: rBlk gR 57 #[.int .i64 ((aheadE sn (dQ G) (dQ G s) : Int) + 1), .string s, .int .i64 tm] :: rOwn w.heap.size 57 3 (.slice A' q c') q ((seen.map (rsE G.ks (dQ G) G.at0)).flatMap resC) :: rBlk gB 85 #[.pointer (some ⟨g, 0, none⟩)] :: rBlk g 91 #[.int .i64 a0, .map (some m), .map (some m2)] :: rMap 9 m2 N2 (qfE G) :: [])) (fun wq => wq.rangeLeft m r2)
          case atStart => exact ⟨[], cnt8, Lib.hid (fun x hx => by cases hx), hS8⟩
          case round =>
            clear hS8
            obtain ⟨sn, cn, HN, hS⟩ := hrel
            obtain ⟨hra, hrg, hne⟩ : RngS wr 9 m r N (qfH G) (seen ++ [s]) cnt2 ∧ RngS wr 9 m r2 N (qfH G) sn cn ∧ r ≠ r2 := hS.head
            have hleni : sn.length ≤ G.ks.length := seen_leR sn G.ks hrg.nodup HN.out
            have hlni : sn.length ≤ N := Nat.le_trans hleni HKN.out
            obtain ⟨rk, hrk⟩ : ∃ rk, aheadE sn (dQ G) (dQ G s) = rk := ⟨_, rfl⟩
            have hrkb : rk ≤ N := by rw [← hrk]; exact Nat.le_trans (aheadE_le _ _ _) hlni
            have HRK := Lib.hid hrk
            rw [hrk] at hS
            clear hra hne hleni hrk
            go_wp2_with (first
              | (at_next; refine wpList_next_map _ rfl _ rfl 9 Tryz.underlying9 m r2 N (qfH G) sn cn rfl hrg ?_ ?_))
            · intro hdone
              have hp := HKG.out.keys.seen hrg.nodup HN.out hdone
              have HT : Hid (((seen ++ [s]).map (rsE G.ks (dQ G) G.at0)).flatMap resC = (seen.map (rsE G.ks (dQ G) G.at0)).flatMap resC ++ [.int .i64 ((rk : Int) + 1), .string s, .int .i64 tm]) := Lib.hid (by
                rw [List.map_append, List.flatMap_append]
                simp only [List.map_cons, List.map_nil, List.flatMap_cons, List.flatMap_nil, List.append_nil]
                unfold rsE resC
                rw [HTM.out, ← aheadE_perm hp, HRK.out])
              have hS6 : Sq w wr (rOwn w.heap.size 57 3 (.slice A' q c') q ((seen.map (rsE G.ks (dQ G) G.at0)).flatMap resC) :: rRng 9 m r N (qfH G) (seen ++ [s]) cnt2 :: rBlk gR 57 #[.int .i64 ((rk : Int) + 1), .string s, .int .i64 tm] :: rBlk gB 85 #[.pointer (some ⟨g, 0, none⟩)] :: rBlk g 91 #[.int .i64 a0, .map (some m), .map (some m2)] :: rMap 9 m2 N2 (qfE G) :: []) := hS.rngOut.front 2 rfl rfl
              have bR : Blk wr gR 57 #[.int .i64 ((rk : Int) + 1), .string s, .int .i64 tm] := hS6.nth 2 rfl
              have r0 := bR.cell 0
              have r1 := bR.cell 1
              have r2_ := bR.cell 2
              have HO : wr.ownsRow w.heap.size 57 3 (.slice A' q c') q ((seen.map (rsE G.ks (dQ G) G.at0)).flatMap resC) := hS6.head
              have hz6 := hS6.size
              clear hS hrg hdone hp bR
              go_wp2_with (first
                | (at_builtin; refine wpList_append_own_at _ rfl _ _ 40 rfl w.heap.size 57 i0 (.agg #[.int .i64 0, .string ⟨#[]⟩, .int .i64 0]) 3 32 Tryz.underlying40 hi hi0 hi1 hi2 rfl (by decide) _ _ _ rfl (HO.alloc _) ⟨wr.heap.size, 0, none⟩ 1 1 [.int .i64 ((rk : Int) + 1), .string s, .int .i64 tm] rfl rfl (World.news_of_block (heap_alloc_new _ _)) (one3s rfl rfl rfl) (by unfold maxLen; omega) (by omega) (by simp; omega) ?_; intro v' w8 hown' hgrow _ hblk; have hS8 := (hS6.alloc _).append hown' hgrow hblk; obtain ⟨A8, c8, hv8⟩ := own_form hown'; subst hv8; clear hown' hgrow hblk HO))
              have E1 : Hid ((seen ++ [s]).length = q + 1) := Lib.hid (by rw [List.length_append, HQ.out]; rfl)
              have hr8 : RngS w8 9 m r N (qfH G) (seen ++ [s]) cnt2 := hS8.nth 1 rfl
              go_roundw
              case rel => exact ⟨A8, c8, seen ++ [s], cnt2, by rw [E1.out], HM2, by rw [HT.out, E1.out]; exact hS8.drop 2 rfl rfl⟩
              case measure => rw [hr8.left, hl2]; exact HL2.out
            · intro o v w9 cn2 hnew hol hf hrg2 hlt2 hg2 hs2 hen
              obtain ⟨co, he, rfl⟩ := Option.map_eq_some_iff.1 hf
              have hok : o ∈ G.ks := (HKG.out.iff o).2 (by rw [he]; rfl)
              have hco : co ≤ 4 := HKG.out.c4 o co he
              obtain ⟨ho, hho⟩ : ∃ ho, ho = hwB co := ⟨_, rfl⟩
              obtain ⟨gd, hgd⟩ : ∃ gd, decide (co = 3) = gd := ⟨_, rfl⟩
              obtain ⟨eo, heo⟩ : ∃ eo, enV G o = eo := ⟨_, rfl⟩
              have hBO : (ho.toList == [100, 111, 110, 101]) = gd := (litB ho [100, 111, 110, 101] (hwB 3) rfl).trans (by rw [← hgd]; exact decide_eq_decide.2 ⟨fun h => hwB_inj hco (by decide) (hho ▸ h), fun h => by rw [hho, h]⟩)
              have hen3 : (Instr.entry (.pointer (some ⟨r2, 0, none⟩))).run Tryz.prog w9 = .ok (.tuple #[.string o, .string ho]) w9 := by rw [hho]; exact hen
              have HO1 : gd = true → dQ G o = some eo := fun h => by rw [← heo]; exact dQ_done (by rw [he, of_decide_eq_true (hgd.trans h)])
              have HO0 : gd = false → dQ G o = none := fun h => dQ_not he (of_decide_eq_false (hgd.trans h))
              obtain ⟨AH, hAH⟩ : ∃ AH, aheadB (dQ G o) (dQ G s) = AH := ⟨_, rfl⟩
              have HA0' : Hid (gd = false → AH = false) := Lib.hid (fun h => by rw [← hAH, HO0 h]; rfl)
              have HA1 : Hid (gd = true → dn = false → AH = true) := Lib.hid (fun h h2 => by rw [← hAH, HO1 h, HD0.out h2]; rfl)
              have HA2 : Hid (gd = true → dn = true → AH = decide (eo < ev)) := Lib.hid (fun h h2 => by rw [← hAH, HO1 h, HD1.out h2, HEV.out]; rfl)
              have HNK : Hid (aheadE (sn ++ [o]) (dQ G) (dQ G s) = rk + (if AH = true then 1 else 0)) := Lib.hid (by rw [aheadE_snoc, HRK.out, hAH])
              have HN2 : Hid (∀ x ∈ sn ++ [o], x ∈ G.ks) := Lib.hid (fun x hx => by
                rcases List.mem_append.1 hx with hx | hx
                · exact HN.out x hx
                · simp at hx; subst hx; exact hok)
              have hli : wr.rangeLeft m r2 = cn := hrg.left
              have hS9 : Sq w w9 (rRng2 9 m r r2 N (qfH G) (seen ++ [s]) cnt2 (sn ++ [o]) cn2 :: rBlk gR 57 #[.int .i64 ((rk : Int) + 1), .string s, .int .i64 tm] :: rOwn w.heap.size 57 3 (.slice A' q c') q ((seen.map (rsE G.ks (dQ G) G.at0)).flatMap resC) :: rBlk gB 85 #[.pointer (some ⟨g, 0, none⟩)] :: rBlk g 91 #[.int .i64 a0, .map (some m), .map (some m2)] :: rMap 9 m2 N2 (qfE G) :: []) := hS.rngIn2 hrg2 hg2
              have hl9 : w9.rangeLeft m r2 = cn2 := hrg2.left
              have HLT := Lib.hid hlt2
              have HSP : Hid (∀ W, Sq w W (rRng2 9 m r r2 N (qfH G) (seen ++ [s]) cnt2 (sn ++ [o]) cn2 :: rBlk gR 57 #[.int .i64 ((rk : Int) + 1), .string s, .int .i64 tm] :: rOwn w.heap.size 57 3 (.slice A' q c') q ((seen.map (rsE G.ks (dQ G) G.at0)).flatMap resC) :: rBlk gB 85 #[.pointer (some ⟨g, 0, none⟩)] :: rBlk g 91 #[.int .i64 a0, .map (some m), .map (some m2)] :: rMap 9 m2 N2 (qfE G) :: []) → W.cell? ⟨gB, 0, none⟩ = some (.pointer (some ⟨g, 0, none⟩)) ∧ W.cell? ⟨g, 2, none⟩ = some (.map (some m2)) ∧ (Instr.lookup 89 (.map (some m2)) (.string s) false).run Tryz.prog W = .ok (.int .i64 ev) W ∧ (Instr.lookup 89 (.map (some m2)) (.string o) false).run Tryz.prog W = .ok (.int .i64 eo) W) := Lib.hid (fun W h => by
                have b1 : Blk W gB 85 #[.pointer (some ⟨g, 0, none⟩)] := h.nth 3 rfl
                have b2 : Blk W g 91 #[.int .i64 a0, .map (some m), .map (some m2)] := h.nth 4 rfl
                have b3 : MapS W 9 m2 N2 (qfE G) := h.nth 5 rfl
                have h1 := b3.look (t := 89) (e := 3) Tryz.underlying9 Tryz.underlying89 (zero_intM W) (s := s) hsl
                have h2 := b3.look (t := 89) (e := 3) Tryz.underlying9 Tryz.underlying89 (zero_intM W) (s := o) hol
                rw [qfE_get, HEV.out] at h1
                rw [qfE_get, heo] at h2
                exact ⟨b1.cell 0, b2.cell 2, h1, h2⟩)
              clear hS hrg hrg2 hg2 hs2 hf hen hnew hho he hok HO1 HO0 hgd heo hAH HN HRK hlt2
              go_upto_region 14 with (fail)
              go_cut [78] (fun s78 W => s78 = .bool AH ∧ ∃ qq, W = w9.drewN qq)
              case first =>
                cases gd with
                | false =>
                  have HF := Lib.hid (HA0'.out rfl)
                  go_quiet (fail)
                  all_goals (go_wp2_with fail; go_meet; exact ⟨by rw [HF.out], ⟨_, rfl⟩⟩)
                | true =>
                  cases dn with
                  | false =>
                    have HF := Lib.hid (HA1.out rfl rfl)
                    go_quiet (fail)
                    all_goals (go_wp2_with fail; go_meet; exact ⟨by rw [HF.out], ⟨_, rfl⟩⟩)
                  | true =>
                    have HF := Lib.hid (HA2.out rfl rfl)
                    have hd1 := HSP.out _ hS9.drew
                    have hd0 := HSP.out _ hS9
                    go_region_held3 (fun W => W.cell? ⟨gB, 0, none⟩ = some (.pointer (some ⟨g, 0, none⟩)) ∧ W.cell? ⟨g, 2, none⟩ = some (.map (some m2)) ∧ (Instr.lookup 89 (.map (some m2)) (.string s) false).run Tryz.prog W = .ok (.int .i64 ev) W ∧ (Instr.lookup 89 (.map (some m2)) (.string o) false).run Tryz.prog W = .ok (.int .i64 eo) W)
                      (first | exact hd1 | exact hd0 | go_keep) (fail)
                    all_goals (go_wp2_with fail; go_meet; exact ⟨by rw [HF.out], ⟨_, rfl⟩⟩)
              case rest =>
                obtain ⟨rfl, qq, rfl⟩ := hcut
                have hS10 := hS9.drewN qq
                obtain ⟨w10, hw10⟩ : ∃ z, z = w9.drewN qq := ⟨_, rfl⟩
                have hl10 : w10.rangeLeft m r2 = cn2 := by rw [hw10]; exact hl9
                rw [← hw10] at hS10 ⊢
                clear hw10 hS9 HSP
                cases AH with
                | false =>
                  have HNK2 : Hid (aheadE (sn ++ [o]) (dQ G) (dQ G s) = rk) := Lib.hid (HNK.out.trans (by rw [if_neg (by decide)]; rfl))
                  clear HNK
                  go_wp2_with fail
                  go_roundw
                  case rel => exact ⟨sn ++ [o], cn2, HN2, by rw [HNK2.out]; exact hS10⟩
                  case measure => rw [hl10, hli]; exact HLT.out
                | true =>
                  have HNK2 : Hid (aheadE (sn ++ [o]) (dQ G) (dQ G s) = rk + 1) := Lib.hid (HNK.out.trans (by rw [if_pos rfl]))
                  have hS11 := hS10.front 1 rfl rfl
                  have bR : Blk w10 gR 57 #[.int .i64 ((rk : Int) + 1), .string s, .int .i64 tm] := hS11.head
                  have r0 := bR.cell 0
                  have f0 := bR.frozen 0
                  have hwr : IntKind.i64.wrap ((rk : Int) + 1 + 1) = (rk : Int) + 1 + 1 := IntWalk.i64_in _ (by omega)
                  clear HNK
                  go_wp2_with fail
                  go_roundw
                  case rel => exact ⟨sn ++ [o], cn2, HN2, by rw [HNK2.out]; exact (hS11.set_ 0 _).front 1 rfl rfl⟩
                  case measure =>
                    have hS12 := hS11.set_ 0 (.int .i64 ((rk : Int) + 1 + 1))
                    have hr12 := (show RngS _ 9 m r N (qfH G) (seen ++ [s]) cnt2 ∧ RngS _ 9 m r2 N (qfH G) (sn ++ [o]) cn2 ∧ r ≠ r2 from hS12.nth 1 rfl).2.1.left
                    rw [hr12, hli]
                    exact HLT.out
end Go.Proofs.YthbcogekfdllmaaGreat
