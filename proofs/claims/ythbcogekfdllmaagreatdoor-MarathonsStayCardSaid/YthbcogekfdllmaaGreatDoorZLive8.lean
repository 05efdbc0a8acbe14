/-
  marathon.expected by a contract. (Printed by gen_live8.py.)
-/
import Derived.Test.YthbcogekfdllmaaGreatDoorZSlot5
import Derived.Deep.RegionHeld3
import Derived.Deep.DeepCutAuto
namespace Go.Proofs.YthbcogekfdllmaaGreatDoor
open Go Go.RowKit
theorem run_maxI {P : Program} {w : World} (ts : Array TypeId) (t : TypeId) (k k' : IntKind) (x y : Int) : (Builtin.max_ ts t #[.int k x, .int k' y]).run P w = .ok (.int k (max x y)) w := by
  rw [run_max_int2, show (if y > x then y else x) = max x y by split <;> omega]
theorem run_minI {P : Program} {w : World} (ts : Array TypeId) (t : TypeId) (k k' : IntKind) (x y : Int) : (Builtin.min_ ts t #[.int k x, .int k' y]).run P w = .ok (.int k (min x y)) w := by
  rw [run_min_int2, show (if y < x then y else x) = min x y by split <;> omega]
attribute [local go_sem ↓] Go.wp_at_zero Go.wp_at_succ run_maxI run_minI

theorem ixOf_bd (xs : List Slt) (key : ByteArray) : -1 ≤ findL xs key ∧ findL xs key < xs.length := ixOf_ge _ xs
/-- what a show is, whatever memory is made behind it -/
theorem show_stays {w w1 W : World} {gs gm N c : Nat} {A : Option Addr} {S : ShowP} {b : Nat} (h : Sq w w1 (shL w.heap.size gs gm N A c S [])) (hb : b < w.heap.size) (hW : Below w1.heap.size w1 W) :
    W.cell? ⟨gs, 0, none⟩ = some (.map (some gm)) ∧ W.cell? ⟨gs, 1, none⟩ = some (.slice A S.order.length c) ∧ MapT W gm N S.st ∧ Rd W b 1 (.slice A S.order.length c) S.order.length (strsV S.order) := by
  have h1 : Blk w1 gs 162 #[.map (some gm), .slice A S.order.length c, .bool S.on] := h.nth 0 rfl
  have h2 : MapT w1 gm N S.st := h.nth 1 rfl
  have h3 : w1.ownsRow w.heap.size 9 1 (.slice A S.order.length c) S.order.length (strsV S.order) := h.nth 2 rfl
  exact ⟨(h1.below hW).cell 0, (h1.below hW).cell 1, h2.below hW, (Rd.own h3 hb).below hW⟩
/-- what is asked of what has begun -/
structure EvOk (xs : List Slt) (e : Ev) : Prop where
  key : e.1.size ≤ 1000
  fnd : 0 ≤ findL xs e.1
  at_ : -2199023255552 ≤ e.2.1 ∧ e.2.1 ≤ 2199023255552
  end_ : -2199023255552 ≤ e.2.2.2 ∧ e.2.2.2 ≤ 2199023255552
theorem ev_len (S : ShowP) : (evP S).length = S.order.length := by simp [evP]
theorem ev_get (S : ShowP) (i : Nat) (hi : i < S.order.length) : (evP S)[i]'(by rw [ev_len]; exact hi) = (S.order[i], (S.st S.order[i]).at_, (S.st S.order[i]).ended, if (S.st S.order[i]).ended = true then (S.st S.order[i]).end_ else 0) := by
  simp [evP]
theorem nxt_bd {xs : List Slt} {f at_ : Int} {evs : List Ev} (hs : Sml xs) (hev : ∀ e ∈ evs, EvOk xs e) (hf : -4398046511104 ≤ f ∧ f ≤ 4398046511104) (ha : -4398046511104 ≤ at_ ∧ at_ ≤ 4398046511104) : ∀ i, i ≤ evs.length → -8796093022208 ≤ nxtTo xs f at_ evs i ∧ nxtTo xs f at_ evs i ≤ 8796093022208
  | 0, _ => by show _ ≤ max f at_ ∧ max f at_ ≤ _; omega
  | i + 1, hi => by
    have hlt : i < evs.length := by omega
    rw [nxtTo_step xs f at_ evs i hlt]
    have he := hev _ (List.getElem_mem hlt)
    have hb := ixOf_bd xs evs[i].1
    obtain ⟨q, hq⟩ : ∃ q : Nat, findL xs evs[i].1 = q := ⟨(findL xs evs[i].1).toNat, by have := he.fnd; omega⟩
    have hql : q < xs.length := by omega
    rw [bplL_at xs at_ evs[i] q hq hql]
    have hx := hs _ (List.getElem_mem hql)
    have h1 := he.at_
    have h2 := he.end_
    unfold bplX
    split
    · simp only; omega
    · simp only; omega
theorem rst_bd {xs : List Slt} {sk : ByteArray → Bool} {nx : Int} (hs : Sml xs) (hx : -8796093022208 ≤ nx ∧ nx ≤ 8796093022208) : ∀ k : Nat, -8796093022208 * ((k : Int) + 1) ≤ (rstTo sk nx xs k).2 ∧ (rstTo sk nx xs k).2 ≤ 8796093022208 * ((k : Int) + 1)
  | 0 => by show _ ≤ nx ∧ nx ≤ _; omega
  | k + 1 => by
    have ih := rst_bd (sk := sk) hs hx k
    by_cases hk : k < xs.length
    · have h := hs _ (List.getElem_mem hk)
      rw [rstTo_step sk nx xs k hk]
      split
      · omega
      · simp only; omega
    · rw [rstTo, List.getElem?_eq_none (by omega)]
      simp only
      omega

set_option maxRecDepth 100000 in
set_option maxHeartbeats 4000000 in
theorem expected_calls (b : Nat) (A A2 : Option Addr) (n c m c2 : Nat) (xs : List Slt) (ys : List Lv) (f at_ : Int) (w : World) (hr : Slts w b A n c xs) (hn : n ≤ 1000) (hr2 : Rd w b 3 (.slice A2 m c2) m (ys.flatMap lvC)) (hys : ∀ y ∈ ys, LvOk y) (hkd : ∀ y ∈ ys, y.2.1 = 1 ∨ y.2.1 = 2 ∨ y.2.1 = 3) (hm : m ≤ 900)
    (hev : ∀ e ∈ evP (stateP (upTo ys at_)), EvOk xs e) (hf : -4398046511104 ≤ f ∧ f ≤ 4398046511104) (ha : -4398046511104 ≤ at_ ∧ at_ ≤ 4398046511104) (hb : b < w.heap.size) :
    Calls Tryz.prog 136 #[.slice A n c, .int .i64 f, .slice A2 m c2, .int .i64 at_] w (PlcsS (expF xs f at_ (evP (stateP (upTo ys at_))) (skipP (stateP (upTo ys at_)))) w) := by
  obtain ⟨hl, hnc, hcm, hcells⟩ := hr.rd.cells sltC_len (by omega)
  obtain ⟨i0, hi, hz0, hz1, hz2⟩ := info_parts info_plc
  unfold maxLen at hcm
  obtain ⟨S, hSt⟩ : ∃ S, stateP (upTo ys at_) = S := ⟨_, rfl⟩
  have hSl : S.order.length ≤ m := by
    have h1 := stateP_len (upTo ys at_)
    have h2 : (upTo ys at_).length ≤ ys.length := List.length_filter_le _ _
    have h3 := (hr2.cells lvC_len (by omega)).1
    rw [hSt] at h1
    omega
  rw [hSt] at hev ⊢
  have HFO := Lib.hid (follow_calls b A2 m c2 ys at_ w hr2 hys hkd hm)
  rw [hSt] at HFO
  obtain ⟨evs, hevs⟩ : ∃ evs, evP S = evs := ⟨_, rfl⟩
  obtain ⟨L, hL⟩ : ∃ L, S.order.length = L := ⟨_, rfl⟩
  have hEL : evs.length = L := by rw [← hevs, ev_len, hL]
  have HNB := Lib.hid (nxt_bd hr.sml (by rw [hevs] at hev; exact hev) hf ha)
  have HEG : Hid (∀ i (hi : i < evs.length) (hi2 : i < S.order.length), evs[i] = (S.order[i], (S.st S.order[i]).at_, (S.st S.order[i]).ended, if (S.st S.order[i]).ended = true then (S.st S.order[i]).end_ else 0)) := fun i hi hi2 => by
    subst hevs
    exact ev_get S i hi2
  rw [hevs] at hev ⊢
  have HEV := Lib.hid hev
  have HEL := Lib.hid hEL
  have HLL := Lib.hid hL
  have HL := Lib.hid hl
  have HC := Lib.hid hcells
  have HR := Lib.hid hr
  obtain ⟨a0, a1⟩ := ha
  rw [hL] at hSl
  clear hl hL hcells hr hev hevs hSt hf hEL hr2 hys hkd
  go_enter Tryz.func136, Tryz.ntmps136
  go_wp2_with fail
  refine HFO.out.mono ?_
  rintro e w1 ⟨gs, gm, N, AO, cO, rfl, hN, hSh⟩
  have HSH := Lib.hid (fun W (hW : Below w1.heap.size w1 W) => show_stays (W := W) hSh hb hW)
  have hw1 := hSh.below
  have HW1 := Lib.hid hw1
  have hw1z := hw1.size
  clear hSh hw1 HFO
  obtain ⟨s0, s1, _, _⟩ := HSH.out w1 (Below.refl _ _)
  rw [HLL.out] at s1
  have hS0 := (Sq.start w1).nil w1.heap.size 71 4
  go_wp2_with fail
  clear s0 s1
  go_loopw [10, 11, 32] (fun v nx i wr => ∃ (i' : Nat), i' ≤ L ∧ i = .int .i64 i' ∧ nx = .int .i64 (nxtTo xs f at_ evs i') ∧ Sq w1 wr [rOwn w1.heap.size 71 4 v (fstTo xs at_ evs i').length ((fstTo xs at_ evs i').flatMap plcC)]) (fun _ _ i _ => L - (intOf i).toNat)
  case atStart => exact ⟨0, Nat.zero_le _, rfl, rfl, hS0⟩
  case round =>
    clear hS0
    obtain ⟨r, hrl, rfl, rfl, hS⟩ := hrel
    by_cases hlt : r < L
    · have hrS : r < S.order.length := by rw [HLL.out]; exact hlt
      have hre : r < evs.length := by rw [HEL.out]; exact hlt
      obtain ⟨key, hkey⟩ : ∃ k, S.order[r] = k := ⟨_, rfl⟩
      obtain ⟨sg, hsg⟩ : ∃ s, S.st key = s := ⟨_, rfl⟩
      obtain ⟨ob, oe, oo, oa, oz⟩ := sg
      have heg := HEG.out r hre hrS
      rw [hkey, hsg] at heg
      simp only at heg
      have hevo := HEV.out _ (List.getElem_mem hre)
      have hfst := fstTo_step xs at_ evs r hre
      have hnst := nxtTo_step xs f at_ evs r hre
      have hnb := HNB.out r (by omega)
      rw [heg] at hevo hfst hnst
      have hkz : key.size ≤ 1000 := hevo.key
      have hml : key.size ≤ maxLen := by unfold maxLen; omega
      have hfb := ixOf_bd xs key
      obtain ⟨q, hq⟩ : ∃ q : Nat, findL xs key = q := ⟨(findL xs key).toNat, by have := hevo.fnd; simp only at this; omega⟩
      have hqr : q < xs.length := by omega
      have hqn : q < n := by rw [← HL.out]; exact hqr
      obtain ⟨g, o, hA, _, hcs⟩ := HC.out (by omega)
      subst hA
      obtain ⟨x, hx⟩ : ∃ x, xs[q] = x := ⟨_, rfl⟩
      have hbp := bplL_at xs at_ (key, oa, oe, if oe = true then oz else 0) q hq hqr
      rw [hx] at hbp
      obtain ⟨s0, s1, hmt, hord⟩ := HSH.out wr hS.below
      rw [HLL.out] at s1 hord
      obtain ⟨_, _, _, hoc⟩ := strs_cells hord
      obtain ⟨g3, o3, hA3, _, hoc2⟩ := hoc (by omega)
      subst hA3
      have ck := hoc2 r hrS
      rw [hkey] at ck
      have hbw : Below w.heap.size w wr := below_call HW1.out hS.below (Nat.le_refl _)
      have hc5 : ∀ j (hj : j < 5), wr.cell? ⟨g, o + q * 5 + j, none⟩ = (sltC x)[j]? := fun j hj => by
        have := hcs q hqr j hj
        rw [hx] at this
        have hlt : j < (sltC x).length := by rw [sltC_len]; exact hj
        rw [List.getElem?_eq_getElem hlt] at this ⊢
        exact below_cell hbw this
      have hxs := (HR.out.ok _ (List.getElem_mem hqr))
      rw [hx] at hxs
      have hxsu := hxs.hs
      have hxlo := hxs.hl
      have hoa : -2199023255552 ≤ oa ∧ oa ≤ 2199023255552 := hevo.at_
      have HOE : Hid (oe = true → -2199023255552 ≤ oz ∧ oz ≤ 2199023255552) := fun h => by
        have := hevo.end_
        simp only [h, if_true] at this
        exact this
      have HFC : Hid (∀ W, Below wr.heap.size wr W → Calls Tryz.prog 74 #[.slice (some ⟨g, o, none⟩) n c, .string key] W (fun e w' => e = .returned (.int .i64 q) ∧ Below W.heap.size W w')) := fun W hW => by
        have h := findL_calls b (some ⟨g, o, none⟩) n c xs key W ((HR.out.rd.below hbw).below hW)
        rw [hq] at h
        exact h
      have HSP : Hid (∀ W, Below wr.heap.size wr W → W.cell? ⟨gs, 0, none⟩ = some (.map (some gm)) ∧ (Instr.lookup 160 (.map (some gm)) (.string key) false).run Tryz.prog W = .ok (.agg #[.bool ob, .bool oe, .bool oo, .int .i64 oa, .int .i64 oz]) W ∧ W.cell? ⟨g, o + q * 5, none⟩ = some (.string x.key) ∧ W.cell? ⟨g, o + q * 5 + 1, none⟩ = some (.string x.who) ∧ W.cell? ⟨g, o + q * 5 + 2, none⟩ = some (.slice x.ha x.hosts.length x.hc) ∧ W.cell? ⟨g, o + q * 5 + 3, none⟩ = some (.int .i64 x.setup) ∧ W.cell? ⟨g, o + q * 5 + 4, none⟩ = some (.int .i64 x.long)) := fun W hW => by
        have h := (hmt.below hW).look hml
        rw [hsg] at h
        exact ⟨below_cell hW s0, h, below_cell hW (hc5 0 (by omega)), below_cell hW (hc5 1 (by omega)), below_cell hW (hc5 2 (by omega)), below_cell hW (hc5 3 (by omega)), below_cell hW (hc5 4 (by omega))⟩
      have HBP := Lib.hid hbp
      have HFS := Lib.hid hfst
      have HNS := Lib.hid hnst
      have hq0 : (0 : Int) ≤ (q : Int) := by omega
      have hqi : (q : Int) < (n : Int) := by omega
      have hr0 : (0 : Int) ≤ (r : Int) := by omega
      have hri : (r : Int) < (L : Int) := by omega
      have hd0 : Below wr.heap.size wr wr.drew := below_drewN (Below.refl _ _) 1
      have hdS : Below wr.heap.size wr (wr.alloc (.cells #[.string ⟨#[]⟩, .string ⟨#[]⟩, .slice none 0 0, .int .i64 0, .int .i64 0] 64)).drew := below_drewN ((Below.refl _ _).alloc (Nat.le_refl _) _) 1
      have hdG : Below wr.heap.size wr (wr.alloc (.cells #[.bool false, .bool false, .bool false, .int .i64 0, .int .i64 0] 159)).drew := below_drewN ((Below.refl _ _).alloc (Nat.le_refl _) _) 1
      have hdSG : Below wr.heap.size wr ((wr.alloc (.cells #[.string ⟨#[]⟩, .string ⟨#[]⟩, .slice none 0 0, .int .i64 0, .int .i64 0] 64)).alloc (.cells #[.bool false, .bool false, .bool false, .int .i64 0, .int .i64 0] 159)).drew := below_drewN (((Below.refl _ _).alloc (Nat.le_refl _) _).alloc (by simp) _) 1
      have hdGS : Below wr.heap.size wr ((wr.alloc (.cells #[.bool false, .bool false, .bool false, .int .i64 0, .int .i64 0] 159)).alloc (.cells #[.string ⟨#[]⟩, .string ⟨#[]⟩, .slice none 0 0, .int .i64 0, .int .i64 0] 64)).drew := below_drewN (((Below.refl _ _).alloc (Nat.le_refl _) _).alloc (by simp) _) 1
      have HQS := Lib.hid hS
      clear hkey hsg heg hevo hfst hnst hfb hq hcs hx hbp hmt hord hoc hoc2 hc5 hxs hS s0 s1
      have HP1 : Hid (∀ w2, Below wr.heap.size wr w2 → Sq w1 ((w2.alloc (.cells #[.string x.key, .string x.who, .slice x.ha x.hosts.length x.hc, .int .i64 x.setup, .int .i64 x.long] 64)).alloc (.cells #[.bool ob, .bool oe, .bool oo, .int .i64 oa, .int .i64 oz] 159)) [rBlk (w2.heap.size + 1) 159 #[.bool ob, .bool oe, .bool oo, .int .i64 oa, .int .i64 oz], rBlk w2.heap.size 64 #[.string x.key, .string x.who, .slice x.ha x.hosts.length x.hc, .int .i64 x.setup, .int .i64 x.long], rOwn w1.heap.size 71 4 u10 (fstTo xs at_ evs r).length ((fstTo xs at_ evs r).flatMap plcC)]) := fun w2 h2 => by
        have h := ((HQS.out.callB h2).add #[.string x.key, .string x.who, .slice x.ha x.hosts.length x.hc, .int .i64 x.setup, .int .i64 x.long] 64).add #[.bool ob, .bool oe, .bool oo, .int .i64 oa, .int .i64 oz] 159
        simp only [size1] at h
        exact h
      have HP2 : Hid (∀ w2, Below wr.heap.size wr w2 → Sq w1 ((w2.alloc (.cells #[.bool ob, .bool oe, .bool oo, .int .i64 oa, .int .i64 oz] 159)).alloc (.cells #[.string x.key, .string x.who, .slice x.ha x.hosts.length x.hc, .int .i64 x.setup, .int .i64 x.long] 64)) [rBlk w2.heap.size 159 #[.bool ob, .bool oe, .bool oo, .int .i64 oa, .int .i64 oz], rBlk (w2.heap.size + 1) 64 #[.string x.key, .string x.who, .slice x.ha x.hosts.length x.hc, .int .i64 x.setup, .int .i64 x.long], rOwn w1.heap.size 71 4 u10 (fstTo xs at_ evs r).length ((fstTo xs at_ evs r).flatMap plcC)]) := fun w2 h2 => by
        have h := ((HQS.out.callB h2).add #[.bool ob, .bool oe, .bool oo, .int .i64 oa, .int .i64 oz] 159).add #[.string x.key, .string x.who, .slice x.ha x.hosts.length x.hc, .int .i64 x.setup, .int .i64 x.long] 64
        simp only [size1] at h
        exact h.front 1 rfl rfl
      have HP3 : Hid (∀ w2, Below (wr.alloc (.cells #[.string ⟨#[]⟩, .string ⟨#[]⟩, .slice none 0 0, .int .i64 0, .int .i64 0] 64)).drew.heap.size (wr.alloc (.cells #[.string ⟨#[]⟩, .string ⟨#[]⟩, .slice none 0 0, .int .i64 0, .int .i64 0] 64)).drew w2 → Sq w1 ((((((w2.setCell ⟨wr.heap.size, 0, none⟩ (.string x.key)).setCell ⟨wr.heap.size, 1, none⟩ (.string x.who)).setCell ⟨wr.heap.size, 2, none⟩ (.slice x.ha x.hosts.length x.hc)).setCell ⟨wr.heap.size, 3, none⟩ (.int .i64 x.setup)).setCell ⟨wr.heap.size, 4, none⟩ (.int .i64 x.long)).alloc (.cells #[.bool ob, .bool oe, .bool oo, .int .i64 oa, .int .i64 oz] 159)) [rBlk w2.heap.size 159 #[.bool ob, .bool oe, .bool oo, .int .i64 oa, .int .i64 oz], rBlk wr.heap.size 64 #[.string x.key, .string x.who, .slice x.ha x.hosts.length x.hc, .int .i64 x.setup, .int .i64 x.long], rOwn w1.heap.size 71 4 u10 (fstTo xs at_ evs r).length ((fstTo xs at_ evs r).flatMap plcC)]) := fun w2 h2 => by
        have h := (((((((HQS.out.add #[.string ⟨#[]⟩, .string ⟨#[]⟩, .slice none 0 0, .int .i64 0, .int .i64 0] 64).drew.callB h2).set_ 0 (.string x.key)).set_ 1 (.string x.who)).set_ 2 (.slice x.ha x.hosts.length x.hc)).set_ 3 (.int .i64 x.setup)).set_ 4 (.int .i64 x.long)).add #[.bool ob, .bool oe, .bool oo, .int .i64 oa, .int .i64 oz] 159
        simpa [World.setCell] using h
      have HP4 : Hid (∀ w2, Below (wr.alloc (.cells #[.bool false, .bool false, .bool false, .int .i64 0, .int .i64 0] 159)).drew.heap.size (wr.alloc (.cells #[.bool false, .bool false, .bool false, .int .i64 0, .int .i64 0] 159)).drew w2 → Sq w1 ((((((w2.setCell ⟨wr.heap.size, 0, none⟩ (.bool ob)).setCell ⟨wr.heap.size, 1, none⟩ (.bool oe)).setCell ⟨wr.heap.size, 2, none⟩ (.bool oo)).setCell ⟨wr.heap.size, 3, none⟩ (.int .i64 oa)).setCell ⟨wr.heap.size, 4, none⟩ (.int .i64 oz)).alloc (.cells #[.string x.key, .string x.who, .slice x.ha x.hosts.length x.hc, .int .i64 x.setup, .int .i64 x.long] 64)) [rBlk wr.heap.size 159 #[.bool ob, .bool oe, .bool oo, .int .i64 oa, .int .i64 oz], rBlk w2.heap.size 64 #[.string x.key, .string x.who, .slice x.ha x.hosts.length x.hc, .int .i64 x.setup, .int .i64 x.long], rOwn w1.heap.size 71 4 u10 (fstTo xs at_ evs r).length ((fstTo xs at_ evs r).flatMap plcC)]) := fun w2 h2 => by
        have h := (((((((HQS.out.add #[.bool false, .bool false, .bool false, .int .i64 0, .int .i64 0] 159).drew.callB h2).set_ 0 (.bool ob)).set_ 1 (.bool oe)).set_ 2 (.bool oo)).set_ 3 (.int .i64 oa)).set_ 4 (.int .i64 oz)).add #[.string x.key, .string x.who, .slice x.ha x.hosts.length x.hc, .int .i64 x.setup, .int .i64 x.long] 64
        have h := h.front 1 rfl rfl
        simpa [World.setCell] using h
      have HP5 : Hid (∀ w2, Below ((wr.alloc (.cells #[.string ⟨#[]⟩, .string ⟨#[]⟩, .slice none 0 0, .int .i64 0, .int .i64 0] 64)).alloc (.cells #[.bool false, .bool false, .bool false, .int .i64 0, .int .i64 0] 159)).drew.heap.size ((wr.alloc (.cells #[.string ⟨#[]⟩, .string ⟨#[]⟩, .slice none 0 0, .int .i64 0, .int .i64 0] 64)).alloc (.cells #[.bool false, .bool false, .bool false, .int .i64 0, .int .i64 0] 159)).drew w2 → Sq w1 ((((((((((w2.setCell ⟨wr.heap.size, 0, none⟩ (.string x.key)).setCell ⟨wr.heap.size, 1, none⟩ (.string x.who)).setCell ⟨wr.heap.size, 2, none⟩ (.slice x.ha x.hosts.length x.hc)).setCell ⟨wr.heap.size, 3, none⟩ (.int .i64 x.setup)).setCell ⟨wr.heap.size, 4, none⟩ (.int .i64 x.long)).setCell ⟨wr.heap.size + 1, 0, none⟩ (.bool ob)).setCell ⟨wr.heap.size + 1, 1, none⟩ (.bool oe)).setCell ⟨wr.heap.size + 1, 2, none⟩ (.bool oo)).setCell ⟨wr.heap.size + 1, 3, none⟩ (.int .i64 oa)).setCell ⟨wr.heap.size + 1, 4, none⟩ (.int .i64 oz)) [rBlk (wr.heap.size + 1) 159 #[.bool ob, .bool oe, .bool oo, .int .i64 oa, .int .i64 oz], rBlk wr.heap.size 64 #[.string x.key, .string x.who, .slice x.ha x.hosts.length x.hc, .int .i64 x.setup, .int .i64 x.long], rOwn w1.heap.size 71 4 u10 (fstTo xs at_ evs r).length ((fstTo xs at_ evs r).flatMap plcC)]) := fun w2 h2 => by
        have h := ((HQS.out.add #[.string ⟨#[]⟩, .string ⟨#[]⟩, .slice none 0 0, .int .i64 0, .int .i64 0] 64).add #[.bool false, .bool false, .bool false, .int .i64 0, .int .i64 0] 159).drew.callB h2
        simp only [size1] at h
        have h := ((((((h.front 1 rfl rfl).set_ 0 (.string x.key)).set_ 1 (.string x.who)).set_ 2 (.slice x.ha x.hosts.length x.hc)).set_ 3 (.int .i64 x.setup)).set_ 4 (.int .i64 x.long))
        exact ((((((h.front 1 rfl rfl).set_ 0 (.bool ob)).set_ 1 (.bool oe)).set_ 2 (.bool oo)).set_ 3 (.int .i64 oa)).set_ 4 (.int .i64 oz))
      have HP6 : Hid (∀ w2, Below ((wr.alloc (.cells #[.bool false, .bool false, .bool false, .int .i64 0, .int .i64 0] 159)).alloc (.cells #[.string ⟨#[]⟩, .string ⟨#[]⟩, .slice none 0 0, .int .i64 0, .int .i64 0] 64)).drew.heap.size ((wr.alloc (.cells #[.bool false, .bool false, .bool false, .int .i64 0, .int .i64 0] 159)).alloc (.cells #[.string ⟨#[]⟩, .string ⟨#[]⟩, .slice none 0 0, .int .i64 0, .int .i64 0] 64)).drew w2 → Sq w1 ((((((((((w2.setCell ⟨wr.heap.size + 1, 0, none⟩ (.string x.key)).setCell ⟨wr.heap.size + 1, 1, none⟩ (.string x.who)).setCell ⟨wr.heap.size + 1, 2, none⟩ (.slice x.ha x.hosts.length x.hc)).setCell ⟨wr.heap.size + 1, 3, none⟩ (.int .i64 x.setup)).setCell ⟨wr.heap.size + 1, 4, none⟩ (.int .i64 x.long)).setCell ⟨wr.heap.size, 0, none⟩ (.bool ob)).setCell ⟨wr.heap.size, 1, none⟩ (.bool oe)).setCell ⟨wr.heap.size, 2, none⟩ (.bool oo)).setCell ⟨wr.heap.size, 3, none⟩ (.int .i64 oa)).setCell ⟨wr.heap.size, 4, none⟩ (.int .i64 oz)) [rBlk wr.heap.size 159 #[.bool ob, .bool oe, .bool oo, .int .i64 oa, .int .i64 oz], rBlk (wr.heap.size + 1) 64 #[.string x.key, .string x.who, .slice x.ha x.hosts.length x.hc, .int .i64 x.setup, .int .i64 x.long], rOwn w1.heap.size 71 4 u10 (fstTo xs at_ evs r).length ((fstTo xs at_ evs r).flatMap plcC)]) := fun w2 h2 => by
        have h := ((HQS.out.add #[.bool false, .bool false, .bool false, .int .i64 0, .int .i64 0] 159).add #[.string ⟨#[]⟩, .string ⟨#[]⟩, .slice none 0 0, .int .i64 0, .int .i64 0] 64).drew.callB h2
        simp only [size1] at h
        have h := (((((h.set_ 0 (.string x.key)).set_ 1 (.string x.who)).set_ 2 (.slice x.ha x.hosts.length x.hc)).set_ 3 (.int .i64 x.setup)).set_ 4 (.int .i64 x.long))
        exact ((((((h.front 1 rfl rfl).set_ 0 (.bool ob)).set_ 1 (.bool oe)).set_ 2 (.bool oo)).set_ 3 (.int .i64 oa)).set_ 4 (.int .i64 oz))
      have HSG1 : Hid (Blk ((wr.alloc (.cells #[.string ⟨#[]⟩, .string ⟨#[]⟩, .slice none 0 0, .int .i64 0, .int .i64 0] 64)).alloc (.cells #[.bool false, .bool false, .bool false, .int .i64 0, .int .i64 0] 159)).drew (wr.heap.size + 1) 159 #[.bool false, .bool false, .bool false, .int .i64 0, .int .i64 0]) := by have h := Blk.new (wr.alloc (.cells #[.string ⟨#[]⟩, .string ⟨#[]⟩, .slice none 0 0, .int .i64 0, .int .i64 0] 64)) 159 #[.bool false, .bool false, .bool false, .int .i64 0, .int .i64 0]; rw [size1] at h; exact h.drew
      have HGS1 : Hid (Blk ((wr.alloc (.cells #[.bool false, .bool false, .bool false, .int .i64 0, .int .i64 0] 159)).alloc (.cells #[.string ⟨#[]⟩, .string ⟨#[]⟩, .slice none 0 0, .int .i64 0, .int .i64 0] 64)).drew (wr.heap.size + 1) 64 #[.string ⟨#[]⟩, .string ⟨#[]⟩, .slice none 0 0, .int .i64 0, .int .i64 0]) := by have h := Blk.new (wr.alloc (.cells #[.bool false, .bool false, .bool false, .int .i64 0, .int .i64 0] 159)) 64 #[.string ⟨#[]⟩, .string ⟨#[]⟩, .slice none 0 0, .int .i64 0, .int .i64 0]; rw [size1] at h; exact h.drew
      go_wp2_with fail
      go_cut [14, 15] (fun s14 s15 W => ∃ gS gG, s14 = .pointer (some ⟨gS, 0, none⟩) ∧ s15 = .pointer (some ⟨gG, 0, none⟩) ∧ Sq w1 W [rBlk gG 159 #[.bool ob, .bool oe, .bool oo, .int .i64 oa, .int .i64 oz], rBlk gS 64 #[.string x.key, .string x.who, .slice x.ha x.hosts.length x.hc, .int .i64 x.setup, .int .i64 x.long], rOwn w1.heap.size 71 4 u10 (fstTo xs at_ evs r).length ((fstTo xs at_ evs r).flatMap plcC)])
      case first =>
        go_region_held3 (fun W => W.cell? ⟨gs, 0, none⟩ = some (.map (some gm)) ∧ (Instr.lookup 160 (.map (some gm)) (.string key) false).run Tryz.prog W = .ok (.agg #[.bool ob, .bool oe, .bool oo, .int .i64 oa, .int .i64 oz]) W ∧ W.cell? ⟨g, o + q * 5, none⟩ = some (.string x.key) ∧ W.cell? ⟨g, o + q * 5 + 1, none⟩ = some (.string x.who) ∧ W.cell? ⟨g, o + q * 5 + 2, none⟩ = some (.slice x.ha x.hosts.length x.hc) ∧ W.cell? ⟨g, o + q * 5 + 3, none⟩ = some (.int .i64 x.setup) ∧ W.cell? ⟨g, o + q * 5 + 4, none⟩ = some (.int .i64 x.long))
          (first | with_reducible exact HSP.out _ hd0 | with_reducible exact HSP.out _ hdS | with_reducible exact HSP.out _ hdG | with_reducible exact HSP.out _ hdSG | with_reducible exact HSP.out _ hdGS | with_reducible exact HSP.out _ hb3 | with_reducible exact HSP.out _ (hb3.alloc hb3.size _) | with_reducible exact HSP.out _ ((hb3.alloc hb3.size _).alloc (base1 hb3.size _) _) | with_reducible exact HSP.out _ (((((hb3.setCell (p := ⟨wr.heap.size, 0, none⟩) (Nat.le_refl _) _).setCell (p := ⟨wr.heap.size, 1, none⟩) (Nat.le_refl _) _).setCell (p := ⟨wr.heap.size, 2, none⟩) (Nat.le_refl _) _).setCell (p := ⟨wr.heap.size, 3, none⟩) (Nat.le_refl _) _).setCell (p := ⟨wr.heap.size, 4, none⟩) (Nat.le_refl _) _) | with_reducible exact HSP.out _ ((((((hb3.setCell (p := ⟨wr.heap.size, 0, none⟩) (Nat.le_refl _) _).setCell (p := ⟨wr.heap.size, 1, none⟩) (Nat.le_refl _) _).setCell (p := ⟨wr.heap.size, 2, none⟩) (Nat.le_refl _) _).setCell (p := ⟨wr.heap.size, 3, none⟩) (Nat.le_refl _) _).setCell (p := ⟨wr.heap.size, 4, none⟩) (Nat.le_refl _) _).alloc (by simpa [World.setCell] using hb3.size) _) | with_reducible exact HSP.out _ ((((((((((hb3.setCell (p := ⟨wr.heap.size, 0, none⟩) (Nat.le_refl _) _).setCell (p := ⟨wr.heap.size, 1, none⟩) (Nat.le_refl _) _).setCell (p := ⟨wr.heap.size, 2, none⟩) (Nat.le_refl _) _).setCell (p := ⟨wr.heap.size, 3, none⟩) (Nat.le_refl _) _).setCell (p := ⟨wr.heap.size, 4, none⟩) (Nat.le_refl _) _).setCell (p := ⟨wr.heap.size + 1, 0, none⟩) (Nat.le_succ _) _).setCell (p := ⟨wr.heap.size + 1, 1, none⟩) (Nat.le_succ _) _).setCell (p := ⟨wr.heap.size + 1, 2, none⟩) (Nat.le_succ _) _).setCell (p := ⟨wr.heap.size + 1, 3, none⟩) (Nat.le_succ _) _).setCell (p := ⟨wr.heap.size + 1, 4, none⟩) (Nat.le_succ _) _) | with_reducible exact HSP.out _ (((((hb3.setCell (p := ⟨wr.heap.size + 1, 0, none⟩) (Nat.le_succ _) _).setCell (p := ⟨wr.heap.size + 1, 1, none⟩) (Nat.le_succ _) _).setCell (p := ⟨wr.heap.size + 1, 2, none⟩) (Nat.le_succ _) _).setCell (p := ⟨wr.heap.size + 1, 3, none⟩) (Nat.le_succ _) _).setCell (p := ⟨wr.heap.size + 1, 4, none⟩) (Nat.le_succ _) _) | with_reducible exact HSP.out _ ((((((hb3.setCell (p := ⟨wr.heap.size + 1, 0, none⟩) (Nat.le_succ _) _).setCell (p := ⟨wr.heap.size + 1, 1, none⟩) (Nat.le_succ _) _).setCell (p := ⟨wr.heap.size + 1, 2, none⟩) (Nat.le_succ _) _).setCell (p := ⟨wr.heap.size + 1, 3, none⟩) (Nat.le_succ _) _).setCell (p := ⟨wr.heap.size + 1, 4, none⟩) (Nat.le_succ _) _).alloc (by simpa [World.setCell] using hb3.size) _) | with_reducible exact HSP.out _ ((((((((((hb3.setCell (p := ⟨wr.heap.size + 1, 0, none⟩) (Nat.le_succ _) _).setCell (p := ⟨wr.heap.size + 1, 1, none⟩) (Nat.le_succ _) _).setCell (p := ⟨wr.heap.size + 1, 2, none⟩) (Nat.le_succ _) _).setCell (p := ⟨wr.heap.size + 1, 3, none⟩) (Nat.le_succ _) _).setCell (p := ⟨wr.heap.size + 1, 4, none⟩) (Nat.le_succ _) _).setCell (p := ⟨wr.heap.size, 0, none⟩) (Nat.le_refl _) _).setCell (p := ⟨wr.heap.size, 1, none⟩) (Nat.le_refl _) _).setCell (p := ⟨wr.heap.size, 2, none⟩) (Nat.le_refl _) _).setCell (p := ⟨wr.heap.size, 3, none⟩) (Nat.le_refl _) _).setCell (p := ⟨wr.heap.size, 4, none⟩) (Nat.le_refl _) _) | go_keep)
          (first
            | (go_at_call 74; ((with_reducible refine (HFC.out _ hd0).mono ?_); rintro e w2 ⟨rfl, hb2⟩; have hb3 := below_call hd0 hb2 (Nat.le_refl _)))
            | (go_at_call 74; ((with_reducible refine (HFC.out _ hdS).mono ?_); rintro e w2 ⟨rfl, hb2⟩; have hb3 := below_call hdS hb2 (Nat.le_refl _); have zbS : Blk w2 wr.heap.size 64 #[.string ⟨#[]⟩, .string ⟨#[]⟩, .slice none 0 0, .int .i64 0, .int .i64 0] := Blk.below (Blk.drew (Blk.new wr 64 #[.string ⟨#[]⟩, .string ⟨#[]⟩, .slice none 0 0, .int .i64 0, .int .i64 0])) hb2; have zS0 := zbS.cell 0; have fS0 := zbS.frozen 0; have zS1 := zbS.cell 1; have fS1 := zbS.frozen 1; have zS2 := zbS.cell 2; have fS2 := zbS.frozen 2; have zS3 := zbS.cell 3; have fS3 := zbS.frozen 3; have zS4 := zbS.cell 4; have fS4 := zbS.frozen 4; have zlS := zbS.lt; clear zbS))
            | (go_at_call 74; ((with_reducible refine (HFC.out _ hdG).mono ?_); rintro e w2 ⟨rfl, hb2⟩; have hb3 := below_call hdG hb2 (Nat.le_refl _); have zbG : Blk w2 wr.heap.size 159 #[.bool false, .bool false, .bool false, .int .i64 0, .int .i64 0] := Blk.below (Blk.drew (Blk.new wr 159 #[.bool false, .bool false, .bool false, .int .i64 0, .int .i64 0])) hb2; have zG0 := zbG.cell 0; have fG0 := zbG.frozen 0; have zG1 := zbG.cell 1; have fG1 := zbG.frozen 1; have zG2 := zbG.cell 2; have fG2 := zbG.frozen 2; have zG3 := zbG.cell 3; have fG3 := zbG.frozen 3; have zG4 := zbG.cell 4; have fG4 := zbG.frozen 4; have zlG := zbG.lt; clear zbG))
            | (go_at_call 74; ((with_reducible refine (HFC.out _ hdSG).mono ?_); rintro e w2 ⟨rfl, hb2⟩; have hb3 := below_call hdSG hb2 (Nat.le_refl _); have zbS : Blk w2 wr.heap.size 64 #[.string ⟨#[]⟩, .string ⟨#[]⟩, .slice none 0 0, .int .i64 0, .int .i64 0] := Blk.below (Blk.drew ((Blk.new wr 64 #[.string ⟨#[]⟩, .string ⟨#[]⟩, .slice none 0 0, .int .i64 0, .int .i64 0]).alloc _)) hb2; have zS0 := zbS.cell 0; have fS0 := zbS.frozen 0; have zS1 := zbS.cell 1; have fS1 := zbS.frozen 1; have zS2 := zbS.cell 2; have fS2 := zbS.frozen 2; have zS3 := zbS.cell 3; have fS3 := zbS.frozen 3; have zS4 := zbS.cell 4; have fS4 := zbS.frozen 4; have zlS := zbS.lt; clear zbS; have zbG : Blk w2 (wr.heap.size + 1) 159 #[.bool false, .bool false, .bool false, .int .i64 0, .int .i64 0] := Blk.below (HSG1.out) hb2; have zG0 := zbG.cell 0; have fG0 := zbG.frozen 0; have zG1 := zbG.cell 1; have fG1 := zbG.frozen 1; have zG2 := zbG.cell 2; have fG2 := zbG.frozen 2; have zG3 := zbG.cell 3; have fG3 := zbG.frozen 3; have zG4 := zbG.cell 4; have fG4 := zbG.frozen 4; have zlG := zbG.lt; clear zbG))
            | (go_at_call 74; ((with_reducible refine (HFC.out _ hdGS).mono ?_); rintro e w2 ⟨rfl, hb2⟩; have hb3 := below_call hdGS hb2 (Nat.le_refl _); have zbG : Blk w2 wr.heap.size 159 #[.bool false, .bool false, .bool false, .int .i64 0, .int .i64 0] := Blk.below (Blk.drew ((Blk.new wr 159 #[.bool false, .bool false, .bool false, .int .i64 0, .int .i64 0]).alloc _)) hb2; have zG0 := zbG.cell 0; have fG0 := zbG.frozen 0; have zG1 := zbG.cell 1; have fG1 := zbG.frozen 1; have zG2 := zbG.cell 2; have fG2 := zbG.frozen 2; have zG3 := zbG.cell 3; have fG3 := zbG.frozen 3; have zG4 := zbG.cell 4; have fG4 := zbG.frozen 4; have zlG := zbG.lt; clear zbG; have zbS : Blk w2 (wr.heap.size + 1) 64 #[.string ⟨#[]⟩, .string ⟨#[]⟩, .slice none 0 0, .int .i64 0, .int .i64 0] := Blk.below (HGS1.out) hb2; have zS0 := zbS.cell 0; have fS0 := zbS.frozen 0; have zS1 := zbS.cell 1; have fS1 := zbS.frozen 1; have zS2 := zbS.cell 2; have fS2 := zbS.frozen 2; have zS3 := zbS.cell 3; have fS3 := zbS.frozen 3; have zS4 := zbS.cell 4; have fS4 := zbS.frozen 4; have zlS := zbS.lt; clear zbS)))
        all_goals (go_wp2_with fail; go_meet)
        all_goals first
          | with_reducible exact ⟨_, _, rfl, rfl, HP1.out _ hb3⟩
          | with_reducible exact ⟨_, _, rfl, rfl, HP2.out _ hb3⟩
          | with_reducible exact ⟨_, _, rfl, rfl, HP3.out _ hb2⟩
          | with_reducible exact ⟨_, _, rfl, rfl, HP4.out _ hb2⟩
          | with_reducible exact ⟨_, _, rfl, rfl, HP5.out _ hb2⟩
          | with_reducible exact ⟨_, _, rfl, rfl, HP6.out _ hb2⟩
      case rest =>
        obtain ⟨gS, gG, rfl, rfl, hS⟩ := hcut
        clear HP1 HP2 HP3 HP4 HP5 HP6 HSG1 HGS1 hd0 hdS hdG hdSG hdGS HSP HFC HQS ck
        have bG : Blk wc gG 159 #[.bool ob, .bool oe, .bool oo, .int .i64 oa, .int .i64 oz] := hS.nth 0 rfl
        have bS : Blk wc gS 64 #[.string x.key, .string x.who, .slice x.ha x.hosts.length x.hc, .int .i64 x.setup, .int .i64 x.long] := hS.nth 1 rfl
        have v0 := bG.cell 0
        have v1 := bG.cell 1
        have v3 := bG.cell 3
        have v4 := bG.cell 4
        have u3 := bS.cell 3
        have u4 := bS.cell 4
        have lG := bG.lt
        have lS := bS.lt
        have hne : ¬ gG = wc.heap.size := by omega
        obtain ⟨hsu0, hsu1⟩ := hxsu
        obtain ⟨hlo0, hlo1⟩ := hxlo
        obtain ⟨hoa0, hoa1⟩ := hoa
        obtain ⟨su, hsu⟩ : ∃ s, x.setup = s := ⟨_, rfl⟩
        obtain ⟨lo, hlo⟩ : ∃ s, x.long = s := ⟨_, rfl⟩
        have hlen : (fstTo xs at_ evs r).length = r := by unfold fstTo; rw [List.length_map, List.length_take]; have := HEL.out; omega
        have HLN := Lib.hid hlen
        have hbq := HBP.out
        unfold bplX at hbq
        rw [hsu, hlo] at hbq
        rw [hsu] at u3 hsu0 hsu1
        rw [hlo] at u4 hlo0 hlo1
        have hwz := hS.size
        clear bG bS hsu hlo hlen
        cases oe
        · have HB2 : Hid (bplL xs at_ (key, oa, false, 0) = (key, oa, oa + su, max at_ (oa + su + lo))) := hbq
          have HFS2 : Hid (fstTo xs at_ evs (r + 1) = fstTo xs at_ evs r ++ [(key, oa, oa + su, max at_ (oa + su + lo))]) := by have h := HFS.out; rw [show (if false = true then oz else 0) = (0 : Int) from rfl, HB2.out] at h; exact h
          have HNS2 : Hid (nxtTo xs f at_ evs (r + 1) = max at_ (oa + su + lo)) := by have h := HNS.out; rw [show (if false = true then oz else 0) = (0 : Int) from rfl, HB2.out] at h; exact h.trans (show max at_ (max at_ (oa + su + lo)) = max at_ (oa + su + lo) by omega)
          have hS1 := (hS.add #[.string key, .int .i64 oa, .int .i64 (oa + su), .int .i64 (max at_ (oa + su + lo))] 71).front 3 rfl rfl
          have HO5 : World.ownsRow _ w1.heap.size 71 4 u10 (fstTo xs at_ evs r).length ((fstTo xs at_ evs r).flatMap plcC) := hS1.head
          clear hbq HBP HFS HNS
          go_wp2_with (first
            | (at_builtin; refine wpList_append_own_at _ rfl _ _ 66 rfl w1.heap.size 71 i0 (.agg #[.string ⟨#[]⟩, .int .i64 0, .int .i64 0, .int .i64 0]) 4 40 Tryz.underlying66 hi hz0 hz1 hz2 rfl (by decide) _ _ _ rfl (HO5.alloc _) ⟨wc.heap.size + 1, 0, none⟩ 1 1 [.string key, .int .i64 oa, .int .i64 (oa + su), .int .i64 (max at_ (oa + su + lo))] rfl rfl (World.news_of_block (heap_new2 _ _ _)) (one4 rfl rfl rfl rfl) (by rw [HLN.out]; unfold maxLen; omega) (by rw [HLN.out]; omega) (by simp; omega) ?_; intro v' w5 hown' hgrow _ hblk; have hS5 := (hS1.alloc _).append hown' hgrow hblk; clear hown' hgrow hblk; have e3 := Blk.cell (show Blk w5 wc.heap.size 71 _ from hS5.nth 1 rfl) 3))
          have hS6 : Sq w1 w5 [rOwn w1.heap.size 71 4 v' (fstTo xs at_ evs (r + 1)).length ((fstTo xs at_ evs (r + 1)).flatMap plcC)] := by
            rw [HFS2.out, flat_snoc, List.length_append]
            exact ((hS5.drop 3 rfl rfl).drop 2 rfl rfl).drop 1 rfl rfl
          go_roundw
          case rel => exact ⟨r + 1, by omega, by go_num, by rw [HNS2.out], hS6⟩
          case measure => simp [intOf]; omega
        · obtain ⟨hoz0, hoz1⟩ := HOE.out rfl
          have HB2 : Hid (bplL xs at_ (key, oa, true, oz) = (key, oa, min (oa + su) oz, oz)) := hbq
          have HFS2 : Hid (fstTo xs at_ evs (r + 1) = fstTo xs at_ evs r ++ [(key, oa, min (oa + su) oz, oz)]) := by have h := HFS.out; rw [show (if true = true then oz else 0) = oz from rfl, HB2.out] at h; exact h
          have HNS2 : Hid (nxtTo xs f at_ evs (r + 1) = max at_ oz) := by have h := HNS.out; rw [show (if true = true then oz else 0) = oz from rfl, HB2.out] at h; exact h
          have hS1 := (((hS.add #[.string key, .int .i64 oa, .int .i64 (min (oa + su) oz), .int .i64 oz] 71).drew).front 3 rfl rfl)
          have HO5 : World.ownsRow _ w1.heap.size 71 4 u10 (fstTo xs at_ evs r).length ((fstTo xs at_ evs r).flatMap plcC) := hS1.head
          clear hbq HBP HFS HNS
          go_wp2_with fail
          go_region_law (fail)
          all_goals
            go_wp2_with (first
              | (at_builtin; refine wpList_append_own_at _ rfl _ _ 66 rfl w1.heap.size 71 i0 (.agg #[.string ⟨#[]⟩, .int .i64 0, .int .i64 0, .int .i64 0]) 4 40 Tryz.underlying66 hi hz0 hz1 hz2 rfl (by decide) _ _ _ rfl (HO5.alloc _) ⟨wc.heap.size + 1, 0, none⟩ 1 1 [.string key, .int .i64 oa, .int .i64 (min (oa + su) oz), .int .i64 oz] rfl rfl (World.news_of_block (heap_new2 _ _ _)) (one4 rfl rfl rfl rfl) (by rw [HLN.out]; unfold maxLen; omega) (by rw [HLN.out]; omega) (by simp; omega) ?_; intro v' w5 hown' hgrow _ hblk; have hS5 := (hS1.alloc _).append hown' hgrow hblk; clear hown' hgrow hblk; have e3 := Blk.cell (show Blk w5 wc.heap.size 71 _ from hS5.nth 1 rfl) 3))
            have hS6 : Sq w1 w5 [rOwn w1.heap.size 71 4 v' (fstTo xs at_ evs (r + 1)).length ((fstTo xs at_ evs (r + 1)).flatMap plcC)] := by
              rw [HFS2.out, flat_snoc, List.length_append]
              exact ((hS5.drop 3 rfl rfl).drop 2 rfl rfl).drop 1 rfl rfl
            go_roundw
            case rel => exact ⟨r + 1, by omega, by go_num, by rw [HNS2.out], hS6⟩
            case measure => simp [intOf]; omega
    · obtain rfl : r = L := by omega
      have HFE : Hid (fstTo xs at_ evs evs.length = fstTo xs at_ evs r) := by rw [HEL.out]; exact Lib.hid rfl
      have HNE : Hid (nxtTo xs f at_ evs evs.length = nxtTo xs f at_ evs r) := by rw [HEL.out]; exact Lib.hid rfl
      have hnb := HNB.out r (by rw [HEL.out]; exact Nat.le_refl _)
      have hl0 : (fstTo xs at_ evs r).length ≤ 900 := by
        unfold fstTo
        rw [List.length_map, List.length_take]
        omega
      obtain ⟨nx0, hnx⟩ : ∃ z, nxtTo xs f at_ evs r = z := ⟨_, rfl⟩
      obtain ⟨P0, hP0⟩ : ∃ z, fstTo xs at_ evs r = z := ⟨_, rfl⟩
      obtain ⟨sk, hsk⟩ : ∃ z, skipP S = z := ⟨_, rfl⟩
      rw [hnx] at HNE hnb ⊢
      rw [hP0] at HFE hl0 hS
      have HSK := Lib.hid hsk
      have HRB := Lib.hid (rst_bd (sk := sk) HR.out.sml hnb)
      have hS00 : Sq w1 wr [rOwn w1.heap.size 71 4 u10 (P0 ++ (rstTo sk nx0 xs 0).1).length ((P0 ++ (rstTo sk nx0 xs 0).1).flatMap plcC)] := by
        rw [show (rstTo sk nx0 xs 0).1 = [] from rfl, List.append_nil]; exact hS
      obtain ⟨wo, hwo⟩ : ∃ wo : World, wo = wr := ⟨_, rfl⟩
      subst hwo
      clear hnx hP0 hsk hS hnb
      go_wp2_with fail
      go_loopw [10, 11, 89] (fun v nx i wr => ∃ (k : Nat), k ≤ n ∧ i = .int .i64 k ∧ nx = .int .i64 (rstTo sk nx0 xs k).2 ∧ Sq w1 wr [rOwn w1.heap.size 71 4 v (P0 ++ (rstTo sk nx0 xs k).1).length ((P0 ++ (rstTo sk nx0 xs k).1).flatMap plcC)]) (fun _ _ i _ => n - (intOf i).toNat)
      case atStart => exact ⟨0, Nat.zero_le _, rfl, rfl, hS00⟩
      case round =>
        clear hS00
        obtain ⟨k, hk, rfl, rfl, hS⟩ := hrel
        have hrl := rstTo_len sk nx0 xs k
        have hrb := HRB.out k
        by_cases hlt2 : k < n
        · have hkr : k < xs.length := by rw [HL.out]; exact hlt2
          obtain ⟨g, o, hA, _, hcs⟩ := HC.out (by omega)
          subst hA
          have hst := rstTo_step sk nx0 xs k hkr
          obtain ⟨x, hx⟩ : ∃ x, xs[k] = x := ⟨_, rfl⟩
          have hbw : Below w.heap.size w wr := below_call HW1.out hS.below (Nat.le_refl _)
          have c0 := below_cell hbw (hcs k hkr 0 (by omega))
          have c1 := below_cell hbw (hcs k hkr 1 (by omega))
          have cc2 := below_cell hbw (hcs k hkr 2 (by omega))
          have c3 := below_cell hbw (hcs k hkr 3 (by omega))
          have c4 := below_cell hbw (hcs k hkr 4 (by omega))
          have hxs := (HR.out.ok _ (List.getElem_mem hkr))
          rw [hx] at c0 c1 cc2 c3 c4 hst hxs
          replace c0 : wr.cell? ⟨g, o + k * 5, none⟩ = some (.string x.key) := c0
          replace c1 : wr.cell? ⟨g, o + k * 5 + 1, none⟩ = some (.string x.who) := c1
          replace cc2 : wr.cell? ⟨g, o + k * 5 + 2, none⟩ = some (.slice x.ha x.hosts.length x.hc) := cc2
          replace c3 : wr.cell? ⟨g, o + k * 5 + 3, none⟩ = some (.int .i64 x.setup) := c3
          replace c4 : wr.cell? ⟨g, o + k * 5 + 4, none⟩ = some (.int .i64 x.long) := c4
          obtain ⟨N2, hN2⟩ : ∃ z, (rstTo sk nx0 xs k).2 = z := ⟨_, rfl⟩
          obtain ⟨R, hR⟩ : ∃ z, (rstTo sk nx0 xs k).1 = z := ⟨_, rfl⟩
          have hst1 : rstTo sk nx0 xs (k + 1) = if sk x.key = true then (R, N2) else (R ++ [plcOf N2 x], N2 + x.setup + x.long) := by
            rw [hst, ← hN2, ← hR]
          rw [hN2] at hrb ⊢
          rw [hR] at hrl hS
          obtain ⟨Q, hQ⟩ : ∃ z, P0 ++ R = z := ⟨_, rfl⟩
          have hql : Q.length ≤ 1900 := by rw [← hQ, List.length_append]; omega
          rw [hQ] at hS
          obtain ⟨key, hkey⟩ : ∃ z, x.key = z := ⟨_, rfl⟩
          obtain ⟨su, hsu⟩ : ∃ z, x.setup = z := ⟨_, rfl⟩
          obtain ⟨lo, hlo⟩ : ∃ z, x.long = z := ⟨_, rfl⟩
          have hkz : key.size ≤ 1000 := by rw [← hkey]; exact hxs.hk
          have hml : key.size ≤ maxLen := by unfold maxLen; omega
          have hxsu := hxs.hs
          have hxlo := hxs.hl
          have hpl : plcOf N2 x = (key, N2, N2 + su, N2 + su + lo) := by unfold plcOf; rw [hkey, hsu, hlo]
          rw [hpl, hkey, hsu, hlo] at hst1
          rw [hkey] at c0
          rw [hsu] at c3 hxsu
          rw [hlo] at c4 hxlo
          obtain ⟨hsu0, hsu1⟩ := hxsu
          obtain ⟨hlo0, hlo1⟩ := hxlo
          obtain ⟨hrb0, hrb1⟩ := hrb
          obtain ⟨s0, _, hmt, _⟩ := HSH.out wr hS.below
          obtain ⟨sg, hsg⟩ : ∃ s, S.st key = s := ⟨_, rfl⟩
          obtain ⟨ob, oe, oo, oa, oz⟩ := sg
          have hskk : sk key = (ob || oo) := by rw [← HSK.out]; unfold skipP; rw [hsg]
          rw [hskk] at hst1
          have hSa := hS.add #[.string key, .string x.who, .slice x.ha x.hosts.length x.hc, .int .i64 su, .int .i64 lo] 64
          have HSP : Hid (∀ W, Below (wr.heap.size + 1) (wr.alloc (.cells #[.string key, .string x.who, .slice x.ha x.hosts.length x.hc, .int .i64 su, .int .i64 lo] 64)) W → W.cell? ⟨gs, 0, none⟩ = some (.map (some gm)) ∧ W.cell? ⟨wr.heap.size, 0, none⟩ = some (.string key) ∧ (Instr.lookup 160 (.map (some gm)) (.string key) false).run Tryz.prog W = .ok (.agg #[.bool ob, .bool oe, .bool oo, .int .i64 oa, .int .i64 oz]) W) := fun W hW => by
            have hba : Below wr.heap.size wr (wr.alloc (.cells #[.string key, .string x.who, .slice x.ha x.hosts.length x.hc, .int .i64 su, .int .i64 lo] 64)) := (Below.refl _ _).alloc (Nat.le_refl _) _
            have hW2 : Below (wr.alloc (.cells #[.string key, .string x.who, .slice x.ha x.hosts.length x.hc, .int .i64 su, .int .i64 lo] 64)).heap.size (wr.alloc (.cells #[.string key, .string x.who, .slice x.ha x.hosts.length x.hc, .int .i64 su, .int .i64 lo] 64)) W := by rw [size1]; exact hW
            have hW3 := below_call hba hW2 (Nat.le_refl _)
            have h := (hmt.below hW3).look hml
            rw [hsg] at h
            have hbk : Blk (wr.alloc (.cells #[.string key, .string x.who, .slice x.ha x.hosts.length x.hc, .int .i64 su, .int .i64 lo] 64)) wr.heap.size _ _ := hSa.head
            exact ⟨below_cell hW3 s0, (hbk.below hW2).cell 0, h⟩
          have HST := Lib.hid hst1
          have hSB := ((hSa.add #[.bool ob, .bool oe, .bool oo, .int .i64 oa, .int .i64 oz] 159).drew)
          simp only [size1] at hSB
          have hwz := hS.size
          obtain ⟨wA, hwA⟩ : ∃ W, wr.alloc (.cells #[.string key, .string x.who, .slice x.ha x.hosts.length x.hc, .int .i64 su, .int .i64 lo] 64) = W := ⟨_, rfl⟩
          have hzA : wA.heap.size = wr.heap.size + 1 := by rw [← hwA]; simp
          rw [hwA] at HSP hSB
          have hd0 : Below (wr.heap.size + 1) wA wA.drew := below_drewN (Below.refl _ _) 1
          have hd1 : Below (wr.heap.size + 1) wA (wA.alloc (.cells #[.bool false, .bool false, .bool false, .int .i64 0, .int .i64 0] 159)).drew := below_drewN ((Below.refl _ _).alloc (Nat.le_of_eq hzA.symm) _) 1
          have hd2 : Below (wr.heap.size + 1) wA (wA.alloc (.cells #[.bool ob, .bool oe, .bool oo, .int .i64 oa, .int .i64 oz] 159)).drew := below_drewN ((Below.refl _ _).alloc (Nat.le_of_eq hzA.symm) _) 1
          have HQQ : Hid (P0 ++ R = Q) := hQ
          clear hcs hx hst hst1 hN2 hR hQ hkey hsu hlo hpl hsg hskk hmt hSa hS hxs hbw s0
          go_wp2_with fail
          clear hwA
          go_region_held3 (fun W => W.cell? ⟨gs, 0, none⟩ = some (.map (some gm)) ∧ W.cell? ⟨wr.heap.size, 0, none⟩ = some (.string key) ∧ (Instr.lookup 160 (.map (some gm)) (.string key) false).run Tryz.prog W = .ok (.agg #[.bool ob, .bool oe, .bool oo, .int .i64 oa, .int .i64 oz]) W)
            (first | with_reducible exact HSP.out _ hd0 | with_reducible exact HSP.out _ hd1 | with_reducible exact HSP.out _ hd2 | go_keep) (fail)
          all_goals
            obtain ⟨wB, hwB, hSC⟩ : ∃ W, W = _ ∧ Sq w1 W [rBlk (wr.heap.size + 1) 159 #[.bool ob, .bool oe, .bool oo, .int .i64 oa, .int .i64 oz], rBlk wr.heap.size 64 #[.string key, .string x.who, .slice x.ha x.hosts.length x.hc, .int .i64 su, .int .i64 lo], rOwn w1.heap.size 71 4 u10 Q.length (Q.flatMap plcC)] := ⟨_, rfl, hSB⟩
            rw [← hwB]
            have bG : Blk wB (wr.heap.size + 1) 159 #[.bool ob, .bool oe, .bool oo, .int .i64 oa, .int .i64 oz] := hSC.nth 0 rfl
            have bS : Blk wB wr.heap.size 64 _ := hSC.nth 1 rfl
            have v0 := bG.cell 0
            have v2 := bG.cell 2
            have y0 := bS.cell 0
            have y3 := bS.cell 3
            have y4 := bS.cell 4
            have lG := bG.lt
            have lS := bS.lt
            clear hwB hSB hd0 hd1 hd2 HSP bG bS c0 c1 cc2 c3 c4
            cases ob
            · cases oo
              · have HS1 : Hid (rstTo sk nx0 xs (k + 1) = (R ++ [(key, N2, N2 + su, N2 + su + lo)], N2 + su + lo)) := HST.out.trans (if_neg (by simp))
                have hS1 := (hSC.add #[.string key, .int .i64 N2, .int .i64 (N2 + su), .int .i64 (N2 + su + lo)] 71).front 3 rfl rfl
                have HO5 : World.ownsRow _ w1.heap.size 71 4 u10 Q.length (Q.flatMap plcC) := hS1.head
                have hwz2 := hSC.size
                go_wp2_with (first
                  | (at_builtin; refine wpList_append_own_at _ rfl _ _ 66 rfl w1.heap.size 71 i0 (.agg #[.string ⟨#[]⟩, .int .i64 0, .int .i64 0, .int .i64 0]) 4 40 Tryz.underlying66 hi hz0 hz1 hz2 rfl (by decide) _ _ _ rfl (HO5.alloc _) ⟨wB.heap.size + 1, 0, none⟩ 1 1 [.string key, .int .i64 N2, .int .i64 (N2 + su), .int .i64 (N2 + su + lo)] rfl rfl (World.news_of_block (heap_new2 _ _ _)) (one4 rfl rfl rfl rfl) (by unfold maxLen; omega) (by omega) (by simp; omega) ?_; intro v' w5 hown' hgrow _ hblk; have hS5 := (hS1.alloc _).append hown' hgrow hblk; clear hown' hgrow hblk; have e3 := Blk.cell (show Blk w5 wB.heap.size 71 _ from hS5.nth 1 rfl) 3))
                have hS6 : Sq w1 w5 [rOwn w1.heap.size 71 4 v' (P0 ++ (rstTo sk nx0 xs (k + 1)).1).length ((P0 ++ (rstTo sk nx0 xs (k + 1)).1).flatMap plcC)] := by
                  rw [HS1.out, ← List.append_assoc, HQQ.out, flat_snoc, List.length_append]
                  exact ((hS5.drop 3 rfl rfl).drop 2 rfl rfl).drop 1 rfl rfl
                go_roundw
                case rel => exact ⟨k + 1, by omega, by go_num, by rw [HS1.out], hS6⟩
                case measure => simp [intOf]; omega
              · have HS1 : Hid (rstTo sk nx0 xs (k + 1) = (R, N2)) := HST.out.trans (if_pos (by simp))
                go_wp2_with fail
                go_roundw
                case rel => exact ⟨k + 1, by omega, by go_num, by rw [HS1.out], by rw [HS1.out, HQQ.out]; exact hSC.tail.tail⟩
                case measure => simp [intOf]; omega
            · have HS1 : Hid (rstTo sk nx0 xs (k + 1) = (R, N2)) := HST.out.trans (if_pos (by simp))
              go_wp2_with fail
              go_roundw
              case rel => exact ⟨k + 1, by omega, by go_num, by rw [HS1.out], by rw [HS1.out, HQQ.out]; exact hSC.tail.tail⟩
              case measure => simp [intOf]; omega
        · obtain rfl : k = n := by omega
          have HE : Hid (expF xs f at_ evs (skipP S) = P0 ++ (rstTo sk nx0 xs k).1) := by unfold expF; rw [HSK.out, HFE.out, HNE.out, HL.out]; exact Lib.hid rfl
          have hbw := below_call HW1.out hS.below (Nat.le_refl _)
          have hown : World.ownsRow wr w1.heap.size 71 4 u10 _ _ := hS.head
          go_wp2_with fail
          go_ret
          exact ⟨_, rfl, by rw [HE.out]; exact own_base hown hw1z, hbw⟩
end Go.Proofs.YthbcogekfdllmaaGreatDoor
