/-
  slices.Compact at events by a contract: what is the same as the one before is left out. (Printed by gen_cmq.py.)
-/
import Derived.Test.YtebaaoacmmhppaaGreatZCmpF
import Derived.Test.YtebaaoacmmhppaaGreatZRatMake4
import Derived.Test.YtebaaoacmmhppaaGreatZErB
import Derived.Test.YtebaaoacmmhppaaGreatZEvM
import Derived.Test.YtebaaoacmmhppaaGreatZBtR
import Derived.Test.YtebaaoacmmhppaaGreatZEv1W
import Derived.Test.YtebaaoacmmhppaaGreatZTk
namespace Go.Proofs.YtebaaoacmmhppaaGreat
open Go Go.RowKit Go.Lib Go.Sort

/-- is an element ordered alike as the one before? -/
def dupQ (xs : List Bev) (j : Nat) : Bool := match j with
  | 0 => false
  | j + 1 => match xs[j]?, xs[j + 1]? with
    | some a, some b => decide (sameBev b a = true)
    | _, _ => false
/-- what is kept of the first j -/
def cpQ (xs : List Bev) : Nat → List Bev
  | 0 => []
  | j + 1 => if dupQ xs j = true then cpQ xs j else cpQ xs j ++ (xs[j]?).toList
theorem dupQ_at {xs : List Bev} {j : Nat} (h0 : 0 < j) (hj : j < xs.length) : dupQ xs j = decide (sameBev xs[j] xs[j - 1] = true) := by
  obtain ⟨i, rfl⟩ : ∃ i, j = i + 1 := ⟨j - 1, by omega⟩
  show (match xs[i]?, xs[i + 1]? with | some a, some b => decide (sameBev b a = true) | _, _ => false) = _
  rw [List.getElem?_eq_getElem (show i < xs.length by omega), List.getElem?_eq_getElem hj]
  rfl
theorem cpQ_dup {xs : List Bev} {j : Nat} (h : dupQ xs j = true) : cpQ xs (j + 1) = cpQ xs j := by rw [cpQ, if_pos h]
theorem cpQ_new {xs : List Bev} {j : Nat} (hj : j < xs.length) (h : dupQ xs j = false) : cpQ xs (j + 1) = cpQ xs j ++ [xs[j]] := by
  rw [cpQ, if_neg (by rw [h]; decide), List.getElem?_eq_getElem hj]
  rfl
theorem cpQ_all {xs : List Bev} : ∀ k, k ≤ xs.length → (∀ i, i < k → dupQ xs i = false) → cpQ xs k = xs.take k
  | 0, _, _ => rfl
  | k + 1, hk, h => by
    rw [cpQ_new (by omega) (h k (by omega)), cpQ_all k (by omega) (fun i hi => h i (by omega)), ← List.take_succ_eq_append_getElem]
theorem cpQ_le {xs : List Bev} : ∀ k, k ≤ xs.length → (cpQ xs k).length ≤ k
  | 0, _ => Nat.le_refl _
  | k + 1, hk => by
    have ih := cpQ_le (xs := xs) k (by omega)
    cases h : dupQ xs k with
    | true => rw [cpQ_dup h]; omega
    | false => rw [cpQ_new (by omega) h, List.length_append]; simp; omega
/-- the row on the way: the first i hold what was kept of the first j; from lo on it is as it was -/
structure CqR (xs : List Bev) (i j : Nat) (zs : List Bev) : Prop where
  len : zs.length = xs.length
  cnt : (cpQ xs j).length = i
  lo : ∀ t, t < i → zs[t]? = (cpQ xs j)[t]?
  hi : ∀ t, j ≤ t + 1 → zs[t]? = xs[t]?
theorem CqR.dup {xs zs : List Bev} {i j : Nat} (h : CqR xs i j zs) (hd : dupQ xs j = true) : CqR xs i (j + 1) zs := by
  have e := cpQ_dup hd
  exact ⟨h.len, by rw [e]; exact h.cnt, by rw [e]; exact h.lo, fun t ht => h.hi t (by omega)⟩
theorem CqR.new {xs zs : List Bev} {i j : Nat} (h : CqR xs i j zs) (hj : j < xs.length) (hd : dupQ xs j = false) (hij : i < j) : CqR xs (i + 1) (j + 1) (zs.set i xs[j]) := by
  have e := cpQ_new hj hd
  refine ⟨by rw [List.length_set]; exact h.len, by rw [e, List.length_append, h.cnt]; rfl, fun t ht => ?_, fun t ht => ?_⟩
  · rw [e]
    by_cases hti : t = i
    · subst hti
      rw [List.getElem?_set_self (by rw [h.len]; omega), List.getElem?_append_right (by rw [h.cnt]; exact Nat.le_refl _), h.cnt, Nat.sub_self]
      rfl
    · rw [List.getElem?_set_ne (by omega), List.getElem?_append_left (by rw [h.cnt]; omega)]
      exact h.lo t (by omega)
  · rw [List.getElem?_set_ne (by omega)]
    exact h.hi t (by omega)
theorem CqR.start {xs : List Bev} {k : Nat} (hk : k < xs.length) (h0 : ∀ i, i < k → dupQ xs i = false) (hd : dupQ xs k = true) : CqR xs k (k + 1) xs := by
  have e : cpQ xs (k + 1) = xs.take k := by rw [cpQ_dup hd, cpQ_all k (by omega) h0]
  refine ⟨rfl, by rw [e, List.length_take]; omega, fun t ht => ?_, fun t ht => rfl⟩
  rw [e, List.getElem?_take_of_lt ht]
theorem CqR.done {xs zs : List Bev} {i : Nat} (h : CqR xs i xs.length zs) (hi : i ≤ zs.length) : zs.take i = cpQ xs xs.length := by
  refine List.ext_getElem? (fun t => ?_)
  by_cases ht : t < i
  · rw [List.getElem?_take_of_lt ht]; exact h.lo t ht
  · rw [List.getElem?_eq_none (by rw [List.length_take]; omega), List.getElem?_eq_none (by rw [h.cnt]; omega)]
def CqS (w : World) (base k : Nat) (v : Value) (xs : List Bev) (e : Ending) (w' : World) : Prop :=
  ∃ (A : Option Addr) (c : Nat), e = .returned (.slice A (cpQ xs xs.length).length c) ∧ w'.ownsRow base 62 k (.slice A (cpQ xs xs.length).length c) (cpQ xs xs.length).length ((cpQ xs xs.length).flatMap bevC) ∧ w.grownBy w' v.ownBlock ∧ (Value.slice A (cpQ xs xs.length).length c).ownBlock = v.ownBlock
theorem cq_few {xs : List Bev} (h : xs.length < 2) : cpQ xs xs.length = xs := by
  have : cpQ xs xs.length = xs.take xs.length := cpQ_all _ (Nat.le_refl _) (fun i hi => by
    obtain rfl : i = 0 := by omega
    rfl)
  rw [this, List.take_length]
set_option maxHeartbeats 8000000 in
set_option maxRecDepth 1000000 in
theorem compactQ_calls (k : Nat) (hk : ∀ a, (bevC a).length = k) (hk0 : 0 < k) (aE : ∀ w, (isAgg 62).run Tryz.prog w = .ok true w) (zE : ∀ w, (Go.sizeOf 62).run Tryz.prog w = .ok k w)
    (clr : ∀ (w : World) (b o n c : Nat), 0 < n → (∀ j, j < n * k → (w.cell? ⟨b, o + j, none⟩).isSome = true) → (∀ j, j < n * k → w.frozen? ⟨b, o + j, none⟩ = false) → ∃ vs : List Value, (∀ ty, (Builtin.clear_ #[26] ty #[.slice (some ⟨b, o, none⟩) n c]).run Tryz.prog w = .ok (.tuple #[]) (w.setCells b o vs)) ∧ vs.length = n * k)
    (h1 : ∀ x, ∀ v ∈ bevC x, v.oneCell' = true)
    (heE : ∀ (x y : Bev) (W : World), (binOp .eql 62 (.agg (bevC x).toArray) (.agg (bevC y).toArray)).run Tryz.prog W = .ok (.bool (decide (sameBev x y = true))) W)
    (heN : ∀ (x y : Bev) (W : World), (binOp .neq 62 (.agg (bevC x).toArray) (.agg (bevC y).toArray)).run Tryz.prog W = .ok (.bool (!decide (sameBev x y = true))) W)
    (base : Nat) (w : World) (A : Option Addr) (n c : Nat) (xs : List Bev) (hn : n ≤ 1000) (hl : xs.length = n) (hown : w.ownsRow base 62 k (.slice A n c) n (xs.flatMap bevC)) :
    Calls Tryz.prog 70 #[.slice A n c] w (CqS w base k (.slice A n c) xs) := by
  have mixed : Tryz.prog.follows Departure.mixedOrders = true := by kernel_rfl
  have HL := Lib.hid hl
  by_cases h2 : n < 2
  · have HF : Hid (CqS w base k (.slice A n c) xs (.returned (.slice A n c)) w) := Lib.hid (by
      unfold CqS
      rw [cq_few (by rw [hl]; exact h2), hl]
      exact ⟨A, c, rfl, hown, ⟨rfl, rfl, rfl, Nat.le_refl _, fun _ _ _ => rfl⟩, rfl⟩)
    have h3 : (n : Int) < 2 := by omega
    clear hown heE heN clr aE zE
    go_enter Tryz.func70, Tryz.ntmps70
    go_wp2_with fail
    go_ret
    exact HF.out
  · have h3 : ¬ (n : Int) < 2 := by omega
    obtain ⟨gb, cap, hv, _⟩ := hown.form (by omega)
    injection hv with hA _ hc
    subst hA hc
    obtain ⟨hnc, hcm⟩ := own_cap hown
    unfold maxLen at hcm
    have HLD : Aside (∀ (zs : List Bev) (W : World) (j : Nat) (hj : j < zs.length), zs.length = n → W.ownsRow base 62 k (.slice (some ⟨gb, 0, none⟩) n c) n (zs.flatMap bevC) → ∀ (q : Nat) (os : Array Obj), Sem.run Tryz.prog (loadCellsFrom ⟨gb, j * k, none⟩ 0 k #[]) (grow (W.drewN q) os) = .ok (bevC zs[j]).toArray (grow (W.drewN q) os)) := by
      intro zs W j hj hzl h q os
      have ho := ((RowE.refl h).gw ⟨q, os, rfl⟩).ow
      refine run_loadCellsFrom_list Tryz.prog _ _ _ k (hk _) (fun t u hu => ?_)
      have ht : t < k := by
        have := (List.getElem?_eq_some_iff.1 hu).1
        rwa [hk] at this
      have hc := own_cell bevC k hk ho j t hj (by omega) ht
      rw [hu] at hc
      have hadd : (⟨gb, j * k, none⟩ : Addr).add t = ⟨gb, j * k + t, none⟩ := by unfold Addr.add; split <;> simp_all
      rw [hadd]
      exact hc
    have HS : Hid (RowE w base k gb n c xs w) := Lib.hid (RowE.refl hown)
    clear hown
    go_enter Tryz.func70, Tryz.ntmps70
    go_wp2_with fail
    go_loopg [3] n (fun kx s5 wr => ∃ i : Nat, s5 = .int .i64 i ∧ 1 ≤ i ∧ i ≤ n ∧ n - i ≤ kx ∧ Hid (∀ t, t < i → dupQ xs t = false) ∧ Hid (RowE w base k gb n c xs wr))
    case atStart => exact ⟨1, rfl, Nat.le_refl _, by omega, by omega, Lib.hid (fun t ht => by obtain rfl : t = 0 := (by omega); rfl), HS⟩
    case round =>
      clear HS
      obtain ⟨i, rfl, hi1, hin, hkx, HD, HS⟩ := hrel
      by_cases hlt : i < n
      · obtain ⟨p, hp⟩ : ∃ p, i - 1 = p := ⟨_, rfl⟩
        have hir : i < xs.length := by rw [HL.out]; exact hlt
        have hpr : p < xs.length := by omega
        have hlt' : (i : Int) < (n : Int) := by omega
        have eq4 : (i : Int) - 1 = (p : Int) := by omega
        have eq5 : IntKind.i64.wrap ((i : Int) - 1) = (p : Int) := by rw [IntKind.wrap_i64]; omega
        have pa44 : (0 : Int) ≤ (p : Int) := by omega
        have ba44 : (p : Int) < (n : Int) := by omega
        have ra44 : IntKind.i64.wrap (p : Int) = (p : Int) := by rw [IntKind.wrap_i64]; omega
        have ea44 : ((p : Int)).toNat = p := by omega
        have pc44 : (0 : Int) ≤ (i : Int) := by omega
        have rc44 : IntKind.i64.wrap (i : Int) = (i : Int) := by rw [IntKind.wrap_i64]; omega
        have ec44 : ((i : Int)).toNat = i := by omega
        have l44a := HLD.out xs wr i hir HL.out HS.out.ow
        have l44b := HLD.out xs wr p hpr HL.out HS.out.ow
        have hdup : dupQ xs i = decide (sameBev xs[i] xs[p] = true) := by
          have := dupQ_at (xs := xs) (j := i) (by omega) hir
          simp only [hp] at this
          exact this
        obtain ⟨x44, hx44⟩ : ∃ x, xs[i] = x := ⟨_, rfl⟩
        obtain ⟨y44, hy44⟩ : ∃ x, xs[p] = x := ⟨_, rfl⟩
        rw [hx44] at l44a hdup
        rw [hy44] at l44b hdup
        have hc44 : ∀ W, (binOp .eql 62 (.agg (bevC x44).toArray) (.agg (bevC y44).toArray)).run Tryz.prog W = .ok (.bool (decide (sameBev x44 y44 = true))) W := fun W => heE x44 y44 W
        have HDU := Lib.hid hdup
        cases hB : decide (sameBev x44 y44 = true)
        · rw [hB] at hc44 HDU
          clear hx44 hy44 hdup hp hir hpr
          go_wp2_with fail
          go_quiet_grown (fail)
          have HS2 := Lib.hid (HS.out.gw ⟨nq, osq, rfl⟩)
          clear l44a l44b hc44 HS
          generalize grow (wr.drewN nq) osq = wv1 at HS2 ⊢
          clear nq osq
          go_wp2
          go_roundg (n - i - 1)
          case measure => omega
          case rel => exact ⟨i + 1, by go_num, by omega, by omega, by omega, Lib.hid (fun t ht => by
            rcases Nat.lt_or_ge t i with h | h
            · exact HD.out t h
            · obtain rfl : t = i := (by omega)
              exact HDU.out), HS2⟩
        · rw [hB] at hc44 HDU
          have HCP := Lib.hid (CqR.start hir HD.out HDU.out)
          have hci : ¬ c = i := by omega
          have hci2 : ¬ (c : Int) = (i : Int) := by omega
          clear hx44 hy44 hdup hp hir hpr
          go_wp2_with fail
          go_quiet_grown (fail)
          have HS2 := Lib.hid (HS.out.gw ⟨nq, osq, rfl⟩)
          clear l44a l44b hc44 HS
          generalize grow (wr.drewN nq) osq = wv1 at HS2 ⊢
          clear nq osq eq4 eq5 pa44 ba44 ra44 ea44
          go_wp2_with fail
          go_loopg [3, 5] n (fun kx s5 s7 wr => ∃ (m q : Nat) (zs : List Bev), s5 = .int .i64 m ∧ s7 = .int .i64 q ∧ 1 ≤ q ∧ i + q ≤ n ∧ m < i + q ∧ n - (i + q) ≤ kx ∧ Hid (CqR xs m (i + q) zs) ∧ Hid (RowE w base k gb n c zs wr))
          case atStart => exact ⟨i, 1, xs, rfl, rfl, Nat.le_refl _, by omega, by omega, by omega, HCP, HS2⟩
          case round =>
            clear HS2 HCP HD HDU hkx pc44 rc44 ec44 hB
            obtain ⟨m, q, zs, rfl, rfl, hq1, hqn, hmq, hkx, HC, HS⟩ := hrel
            have hzl : zs.length = n := by rw [HC.out.len]; exact HL.out
            by_cases hlq : i + q < n
            · obtain ⟨p, hp⟩ : ∃ p, q - 1 = p := ⟨_, rfl⟩
              have hir : i + q < xs.length := by rw [HL.out]; exact hlq
              have hpr : i + p < xs.length := by omega
              have hlt2 : (q : Int) < (n : Int) - (i : Int) := by omega
              have eq4 : (q : Int) - 1 = (p : Int) := by omega
              have eq5 : IntKind.i64.wrap ((q : Int) - 1) = (p : Int) := by rw [IntKind.wrap_i64]; omega
              have pa44 : (0 : Int) ≤ (p : Int) := by omega
              have ba44 : (p : Int) < ((n - i : Nat) : Int) := by omega
              have bq44 : (q : Int) < ((n - i : Nat) : Int) := by omega
              have ra44 : IntKind.i64.wrap (p : Int) = (p : Int) := by rw [IntKind.wrap_i64]; omega
              have ea44 : ((p : Int)).toNat = p := by omega
              have pc44 : (0 : Int) ≤ (q : Int) := by omega
              have rc44 : IntKind.i64.wrap (q : Int) = (q : Int) := by rw [IntKind.wrap_i64]; omega
              have ec44 : ((q : Int)).toNat = q := by omega
              have l44a := HLD.out zs wr (i + q) (by omega) hzl HS.out.ow
              have l44b := HLD.out zs wr (i + p) (by omega) hzl HS.out.ow
              have hzx : zs[i + q]'(by omega) = xs[i + q] := by
                have := HC.out.hi (i + q) (by omega)
                rw [List.getElem?_eq_getElem (show i + q < zs.length by omega), List.getElem?_eq_getElem hir] at this
                exact Option.some.inj this
              have hzy : zs[i + p]'(by omega) = xs[i + p] := by
                have := HC.out.hi (i + p) (by omega)
                rw [List.getElem?_eq_getElem (show i + p < zs.length by omega), List.getElem?_eq_getElem hpr] at this
                exact Option.some.inj this
              have hdup : dupQ xs (i + q) = decide (sameBev xs[i + q] xs[i + p] = true) := by
                have := dupQ_at (xs := xs) (j := i + q) (by omega) hir
                simp only [show i + q - 1 = i + p by omega] at this
                exact this
              rw [hzx, Nat.add_mul] at l44a
              rw [hzy, Nat.add_mul] at l44b
              obtain ⟨x44, hx44⟩ : ∃ x, xs[i + q] = x := ⟨_, rfl⟩
              obtain ⟨y44, hy44⟩ : ∃ x, xs[i + p] = x := ⟨_, rfl⟩
              rw [hx44] at l44a hdup
              rw [hy44] at l44b hdup
              have hc44 : ∀ W, (binOp .neq 62 (.agg (bevC x44).toArray) (.agg (bevC y44).toArray)).run Tryz.prog W = .ok (.bool (!decide (sameBev x44 y44 = true))) W := fun W => heN x44 y44 W
              clear heE heN
              have HDU := Lib.hid hdup
              cases hB : decide (sameBev x44 y44 = true)
              · rw [hB] at hc44 HDU
                simp only [Bool.not_false] at hc44
                have HC2 := Lib.hid (HC.out.new hir HDU.out hmq)
                rw [hx44] at HC2
                clear hx44 hy44 hdup hp hir hpr hzx hzy hB
                go_wp2_with fail
                go_quiet_grown (fail)
                have HS2 := Lib.hid (HS.out.gw ⟨nq, osq, rfl⟩)
                have HBW : Hid (Below wr.heap.size wr (grow (wr.drewN nq) osq)) := Lib.hid (below_gw ⟨nq, osq, rfl⟩)
                have l55 := l44a nq osq
                clear l44a l44b hc44 HS
                generalize grow (wr.drewN nq) osq = wv1 at HS2 HBW l55 ⊢
                clear nq osq eq4 eq5 pa44 ba44 ra44 ea44
                have ho := HS2.out.ow
                have hmz : m < zs.length := by omega
                have hmk : m * k + k ≤ n * k := by
                  have := Nat.mul_le_mul_right k (show m + 1 ≤ n by omega)
                  rwa [Nat.add_mul, Nat.one_mul] at this
                have s55 : (storeCells ⟨gb, m * k, none⟩ (bevC x44) 0).run Tryz.prog wv1 = .ok () (wv1.setCells gb (m * k) (bevC x44)) := by
                  have := run_storeCells_cells (P := Tryz.prog) gb (m * k) (bevC x44) 0 wv1 (fun j hj => by
                    rw [hk] at hj
                    rw [Nat.add_zero, own_cell bevC k hk ho m j hmz (by omega) hj]
                    rw [List.getElem?_eq_getElem (by rw [hk]; exact hj)]
                    rfl) (fun j _ => ho.frozenAt _) (h1 x44)
                  rwa [Nat.add_zero] at this
                have HS3 : Hid (RowE w base k gb n c (zs.set m x44) (wv1.setCells gb (m * k) (bevC x44))) := Lib.hid (by
                  have h5 := own_setL (bevC x44) _ (m * k) _ ho
                  rw [setL_flat bevC k hk hk0 zs m hmz x44] at h5
                  exact ⟨grown_trans HS2.out.gr (setCells_grown gb _ _ _), h5⟩)
                have n44 : (bevC x44).length = k := hk _
                have pm44 : (0 : Int) ≤ (m : Int) := by omega
                have bm44 : (m : Int) < (n : Int) := by omega
                have rm44 : IntKind.i64.wrap (m : Int) = (m : Int) := by rw [IntKind.wrap_i64]; omega
                have em44 : ((m : Int)).toNat = m := by omega
                clear ho HS2
                generalize bevC x44 = cx at HS3 s55 l55 n44
                go_wp2_with fail
                go_roundg (n - (i + q) - 1)
                case measure => omega
                case rel => exact ⟨m + 1, q + 1, _, by go_num, by go_num, by omega, by omega, by omega, by omega, HC2, HS3⟩
              · rw [hB] at hc44 HDU
                simp only [Bool.not_true] at hc44
                have HC2 := Lib.hid (HC.out.dup HDU.out)
                clear hx44 hy44 hdup hp hir hpr hzx hzy hB
                go_wp2_with fail
                go_quiet_grown (fail)
                have HS2 := Lib.hid (HS.out.gw ⟨nq, osq, rfl⟩)
                clear l44a l44b hc44 HS
                generalize grow (wr.drewN nq) osq = wv1 at HS2 ⊢
                clear nq osq eq4 eq5 pa44 ba44 ra44 ea44
                go_wp2
                go_roundg (n - (i + q) - 1)
                case measure => omega
                case rel => exact ⟨m, q + 1, zs, rfl, by go_num, by omega, by omega, by omega, by omega, HC2, HS2⟩
            · have hqn2 : i + q = n := by omega
              have hlt2 : ¬ (q : Int) < (n : Int) - (i : Int) := by omega
              have hmn : m < n := by omega
              have ho := HS.out.ow
              have hfl : (zs.flatMap bevC).length = n * k := by rw [flat_len bevC k hk, hzl]
              have hnm : (n - m) * k + m * k = n * k := by rw [← Nat.add_mul]; congr 1; omega
              obtain ⟨vs, hcl, hvl⟩ := clr wr gb (m * k) (n - m) (c - m) (by omega) (fun t ht => by
                rw [ho.cellAt (m * k + t) (by omega), List.getElem?_eq_getElem (by omega)]
                rfl) (fun t _ => ho.frozenAt _)
              have HF : Hid (CqS w base k (.slice (some ⟨gb, 0, none⟩) n c) xs (.returned (.slice (some ⟨gb, 0, none⟩) m c)) (wr.setCells gb (m * k) vs)) := Lib.hid (by
                have h5 := own_cut (own_setL vs _ (m * k) _ ho) (show m ≤ n by omega)
                have hxn : xs.length = n := HL.out
                have hd : zs.take m = cpQ xs xs.length := by
                  have := HC.out
                  rw [hqn2, ← hxn] at this
                  exact this.done (by omega)
                rw [setL_take, ← flat_takeE bevC k hk, hd] at h5
                have hcn : (cpQ xs xs.length).length = m := by
                  have := HC.out.cnt
                  rw [hqn2, ← hxn] at this
                  exact this
                unfold CqS
                rw [hcn]
                exact ⟨_, _, rfl, h5, grown_trans HS.out.gr (setCells_grown gb vs (m * k) wr), rfl⟩)
              have hmn2 : (m : Int) ≤ (n : Int) := by omega
              have hmc : (m : Int) ≤ (c : Int) := by omega
              have hm0 : (0 : Int) ≤ (m : Int) := by omega
              have hcm1 : ¬ c = m := by omega
              have hcm2 : ¬ (c : Int) = (m : Int) := by omega
              have e1 : (n : Int) - (m : Int) = ((n - m : Nat) : Int) := by omega
              have e2 : (c : Int) - (m : Int) = ((c - m : Nat) : Int) := by omega
              clear ho hfl HS HC
              go_wp2_with fail
              go_ret
              exact HF.out
      · obtain rfl : i = n := by omega
        have hlt' : ¬ (i : Int) < (i : Int) := by omega
        have HF : Hid (CqS w base k (.slice (some ⟨gb, 0, none⟩) i c) xs (.returned (.slice (some ⟨gb, 0, none⟩) i c)) wr) := Lib.hid (by
          have h : cpQ xs xs.length = xs := by
            have := cpQ_all (xs := xs) xs.length (Nat.le_refl _) (fun t ht => HD.out t (by rw [← HL.out]; exact ht))
            rwa [List.take_length] at this
          unfold CqS
          rw [h, HL.out]
          exact ⟨_, _, rfl, HS.out.ow, HS.out.gr, rfl⟩)
        clear HS HD heE heN clr aE zE
        go_wp2_with fail
        go_ret
        exact HF.out
end Go.Proofs.YtebaaoacmmhppaaGreat
/-
  Two lists of events made one, in plain words; Compact by ==. (Printed by gen_mrg.py.)
-/
namespace Go.Proofs.YtebaaoacmmhppaaGreat
open Go Go.RowKit Go.Sort
attribute [local go_sem ↓] Go.wp_at_zero Go.wp_at_succ

/-- is an event ordered alike as the one before? -/
def dupM (l : List Bev) (j : Nat) : Bool := match j with
  | 0 => false
  | j + 1 => match l[j]?, l[j + 1]? with
    | some a, some b => decide (ordBev a b = 0)
    | _, _ => false
def conM (l : List Bev) : Bool := (List.range l.length).any (dupM l)
theorem dupM_at {l : List Bev} {j : Nat} (hj : j + 1 < l.length) : dupM l (j + 1) = decide (ordBev l[j] l[j + 1] = 0) := by
  show (match l[j]?, l[j + 1]? with | some a, some b => decide (ordBev a b = 0) | _, _ => false) = _
  rw [List.getElem?_eq_getElem (show j < l.length by omega), List.getElem?_eq_getElem hj]
theorem conM_yes {l : List Bev} {i : Nat} (hi : i < l.length) (h : dupM l i = true) : conM l = true := List.any_eq_true.2 ⟨i, List.mem_range.2 hi, h⟩
theorem conM_no {l : List Bev} (h : ∀ t, t < l.length → dupM l t = false) : conM l = false := by
  cases hc : conM l with
  | false => rfl
  | true =>
    obtain ⟨i, hi, hd⟩ := List.any_eq_true.1 hc
    rw [h i (List.mem_range.1 hi)] at hd
    cases hd
/-- what is made of two lists -/
def mrgL (xs ys : List Bev) : List Bev := cpQ (sev (xs ++ ys)) (sev (xs ++ ys)).length
theorem mrgL_len (xs ys : List Bev) : (mrgL xs ys).length ≤ xs.length + ys.length := by
  have h := cpQ_le (xs := sev (xs ++ ys)) (sev (xs ++ ys)).length (Nat.le_refl _)
  have h2 := sev_len (xs ++ ys)
  rw [List.length_append] at h2
  unfold mrgL
  omega
def MgR (w : World) (L : List Bev) (e : Ending) (w' : World) : Prop :=
  Below w.heap.size w w' ∧ ((conM L = true ∧ e = .returned (.tuple #[.slice none 0 0, .int .i64 13])) ∨ (conM L = false ∧ ∃ (A : Option Addr) (c : Nat), e = .returned (.tuple #[.slice A L.length c, .int .i64 0]) ∧ w'.ownsRow w.heap.size 62 8 (.slice A L.length c) L.length (L.flatMap bevC)))
theorem bevC_oneL (ys : List Bev) : ∀ u ∈ ys.flatMap bevC, u.oneCell' = true := by
  intro u hu
  obtain ⟨y, _, hy⟩ := List.mem_flatMap.1 hu
  exact bevC_one y u hy
theorem eql_bev (a0 a1 a6 a7 b0 b1 b6 b7 : Int) (a2 a3 a4 a5 b2 b3 b4 b5 : ByteArray) (w : World) : (binOp .eql 62 (.agg #[.int .i64 a0, .int .i64 a1, .string a2, .string a3, .string a4, .string a5, .int .i64 a6, .int .i64 a7]) (.agg #[.int .i64 b0, .int .i64 b1, .string b2, .string b3, .string b4, .string b5, .int .i64 b6, .int .i64 b7])).run Tryz.prog w = .ok (.bool (sameBev ⟨a0, a1, a2, a3, a4, a5, a6, a7⟩ ⟨b0, b1, b2, b3, b4, b5, b6, b7⟩)) w := by
  simp only [sameBev, eqS]
  simp [go_sem]
  by_cases h0 : a0 = b0 <;> by_cases h1 : a1 = b1 <;> by_cases h2 : a2.toList = b2.toList <;> by_cases h3 : a3.toList = b3.toList <;> by_cases h4 : a4.toList = b4.toList <;> by_cases h5 : a5.toList = b5.toList <;> by_cases h6 : a6 = b6 <;> by_cases h7 : a7 = b7 <;> simp [h0, h1, h2, h3, h4, h5, h6, h7]
theorem eqlB (x y : Bev) (W : World) : (binOp .eql 62 (.agg (bevC x).toArray) (.agg (bevC y).toArray)).run Tryz.prog W = .ok (.bool (decide (sameBev x y = true))) W := by
  obtain ⟨a0, a1, a2, a3, a4, a5, a6, a7⟩ := x
  obtain ⟨b0, b1, b2, b3, b4, b5, b6, b7⟩ := y
  show (binOp .eql 62 (.agg #[.int .i64 a0, .int .i64 a1, .string a2, .string a3, .string a4, .string a5, .int .i64 a6, .int .i64 a7]) (.agg #[.int .i64 b0, .int .i64 b1, .string b2, .string b3, .string b4, .string b5, .int .i64 b6, .int .i64 b7])).run Tryz.prog W = _
  rw [eql_bev, Bool.decide_eq_true]
theorem neqB (x y : Bev) (W : World) : (binOp .neq 62 (.agg (bevC x).toArray) (.agg (bevC y).toArray)).run Tryz.prog W = .ok (.bool (!decide (sameBev x y = true))) W := by
  obtain ⟨a0, a1, a2, a3, a4, a5, a6, a7⟩ := x
  obtain ⟨b0, b1, b2, b3, b4, b5, b6, b7⟩ := y
  show (binOp .neq 62 (.agg #[.int .i64 a0, .int .i64 a1, .string a2, .string a3, .string a4, .string a5, .int .i64 a6, .int .i64 a7]) (.agg #[.int .i64 b0, .int .i64 b1, .string b2, .string b3, .string b4, .string b5, .int .i64 b6, .int .i64 b7])).run Tryz.prog W = _
  rw [neq_bev, Bool.decide_eq_true]
theorem compactEq_calls (base : Nat) (w : World) (A : Option Addr) (n c : Nat) (xs : List Bev) (hn : n ≤ 1000) (hl : xs.length = n) (ho : w.ownsRow base 62 8 (.slice A n c) n (xs.flatMap bevC)) :
    Calls Tryz.prog 70 #[.slice A n c] w (CqS w base 8 (.slice A n c) xs) :=
  compactQ_calls 8 bevC_len (by decide) Tryz.isAgg62 Tryz.sizeOf62 run_clear_ev bevC_one eqlB neqB base w A n c xs hn hl ho
end Go.Proofs.YtebaaoacmmhppaaGreat
/-
  board.Merge by a contract. (Printed by gen_mrg.py.)
-/
namespace Go.Proofs.YtebaaoacmmhppaaGreat
open Go Go.RowKit Go.Sort
attribute [local go_sem ↓] Go.wp_at_zero Go.wp_at_succ

set_option maxRecDepth 100000 in
set_option maxHeartbeats 4000000 in
theorem merge_calls (b : Nat) (A1 A2 : Option Addr) (n1 c1 n2 c2 : Nat) (xs ys : List Bev) (w : World) (hr1 : Bevs w b A1 n1 c1 xs) (hr2 : Bevs w b A2 n2 c2 ys) (hn : n1 + n2 ≤ 39) :
    Calls Tryz.prog 29 #[.slice A1 n1 c1, .slice A2 n2 c2] w (fun e w' => (firstE [bevsF xs, bevsF ys] ≠ 0 ∧ e = .returned (.tuple #[.slice none 0 0, .int .i64 (firstE [bevsF xs, bevsF ys])]) ∧ Below w.heap.size w w') ∨ (firstE [bevsF xs, bevsF ys] = 0 ∧ MgR w (mrgL xs ys) e w')) := by
  obtain ⟨hx1, _, _, _⟩ := hr1.rd.cells bevC_len (by omega)
  obtain ⟨hx2, _, _, _⟩ := hr2.rd.cells bevC_len (by omega)
  have h1 := hr1.rd
  have h2 := hr2.rd
  obtain ⟨zs, hzs⟩ : ∃ zs, xs ++ ys = zs := ⟨_, rfl⟩
  have HK1 := Lib.hid (checkEvents_calls b A1 n1 c1 xs w hr1)
  have HK2 : Hid (∀ W, Below w.heap.size w W → Calls Tryz.prog 37 #[.slice A2 n2 c2] W (BRet (.int .i64 (bevsF ys)) W)) := Lib.hid (fun W hW => checkEvents_calls b A2 n2 c2 ys W (hr2.below hW))
  obtain ⟨e1, he1⟩ : ∃ e, bevsF xs = e := ⟨_, rfl⟩
  obtain ⟨e2, he2⟩ : ∃ e, bevsF ys = e := ⟨_, rfl⟩
  obtain ⟨E, hE⟩ : ∃ E, firstE [e1, e2] = E := ⟨_, rfl⟩
  rw [he1] at HK1
  rw [he2] at HK2
  rw [he1, he2, hE]
  have HFI : Hid (∀ W : World, Calls Tryz.prog 67 #[.slice (some ⟨W.heap.size, 0, none⟩) 2 2] (W.alloc (.cells #[.int .i64 e1, .int .i64 e2] 33)) (QRet (.int .i64 E) (W.alloc (.cells #[.int .i64 e1, .int .i64 e2] 33)))) := Lib.hid (fun W => by
    have hr : Rd (W.alloc (.cells #[.int .i64 e1, .int .i64 e2] 33)) (W.heap.size + 5) 1 (.slice (some ⟨W.heap.size, 0, none⟩) 2 2) 2 ([e1, e2].map (Value.int .i64)) := Rd.lit W _ 1 2 #[.int .i64 e1, .int .i64 e2] _ (by omega) (by decide) rfl
    have := first_calls (W.heap.size + 5) _ 2 2 [e1, e2] _ hr
    rw [hE] at this
    exact this)
  have HCC : Hid (∀ (W : World) (G : Nat), Below w.heap.size w W → W.heap.size = G → Calls Tryz.prog 68 #[.slice (some ⟨G, 0, none⟩) 2 2] (W.alloc (.cells #[.slice A1 n1 c1, .slice A2 n2 c2] 26)) (fun e w' => ∃ v, e = .returned v ∧ w'.ownsRow (W.alloc (.cells #[.slice A1 n1 c1, .slice A2 n2 c2] 26)).heap.size 62 8 v (n1 + n2) (zs.flatMap bevC) ∧ Below (W.alloc (.cells #[.slice A1 n1 c1, .slice A2 n2 c2] 26)).heap.size (W.alloc (.cells #[.slice A1 n1 c1, .slice A2 n2 c2] 26)) w')) := Lib.hid (fun W G hW hG => by
    subst hG
    have hW2 := hW.alloc hW.size (.cells #[.slice A1 n1 c1, .slice A2 n2 c2] 26)
    have := concatEv_calls b W.heap.size A1 A2 n1 c1 n2 c2 (xs.flatMap bevC) (ys.flatMap bevC) _ (Blk.new W _ _) (h1.below hW2) (h2.below hW2) (bevC_oneL xs) (bevC_oneL ys) (by omega) (by omega)
    rw [← List.flatMap_append, hzs] at this
    exact this)
  obtain ⟨N, hN⟩ : ∃ N, n1 + n2 = N := ⟨_, rfl⟩
  have hNb : N ≤ 39 := by omega
  rw [hN] at HCC
  have hzl : zs.length = N := by rw [← hzs, List.length_append, hx1, hx2]; exact hN
  have HSO := Lib.hid (fun (W : World) (A : Option Addr) (c : Nat) h => sortMo_calls w.heap.size W A N c zs hzl hNb h)
  have hql : (sev zs).length = N := by rw [sev_len]; exact hzl
  have HCQ := Lib.hid (fun (W : World) (A : Option Addr) (c : Nat) h => compactEq_calls w.heap.size W A N c (sev zs) (by omega) hql h)
  have hmr : mrgL xs ys = cpQ (sev zs) (sev zs).length := by unfold mrgL; rw [hzs]
  obtain ⟨L, hL⟩ : ∃ L, mrgL xs ys = L := ⟨_, rfl⟩
  have HLN : Hid (L.length ≤ 39) := Lib.hid (by rw [← hL]; have := mrgL_len xs ys; omega)
  have HLQ : Hid (cpQ (sev zs) (sev zs).length = L) := Lib.hid (by rw [← hmr]; exact hL)
  rw [hL]
  clear he1 he2 hE hzs hzl hql hmr hL h1 h2 hr1 hr2 hx1 hx2 hN
  by_cases hz : E = 0
  · subst hz
    go_enter Tryz.func29, Tryz.ntmps29
    go_wp2_with fail
    refine HK1.out.mono ?_
    rintro e w1 ⟨rfl, hb1⟩
    go_wp2_with fail
    refine (HK2.out _ hb1).mono ?_
    rintro e w2 ⟨rfl, hb2⟩
    have hb3 := below_call hb1 hb2 (Nat.le_refl _)
    clear hb1 hb2
    go_wp2_with fail
    refine (HFI.out _).mono ?_
    rintro e w3 ⟨rfl, nq, rfl⟩
    have hS4 : Sq w ((w2.alloc (.cells #[.int .i64 e1, .int .i64 e2] 33)).drewN nq) [] := (((Sq.start w).callB hb3).alloc _).drewN nq
    obtain ⟨W3, hW3⟩ : ∃ W, (w2.alloc (.cells #[.int .i64 e1, .int .i64 e2] 33)).drewN nq = W := ⟨_, rfl⟩
    rw [hW3] at hS4 ⊢
    clear hW3 hb3 HK1 HK2 HFI
    have HC4 := Lib.hid (HCC.out _ _ hS4.below rfl)
    clear HCC
    go_wp2_with fail
    with_reducible refine HC4.out.mono ?_
    rintro e w5 ⟨V, rfl, hown, hb5⟩
    have hS5 := (hS4.alloc (.cells #[.slice A1 n1 c1, .slice A2 n2 c2] 26)).ownB hb5 hown
    obtain ⟨VA, Vc, rfl⟩ := own_form hown
    clear hown hb5 hS4
    go_wp2_with fail
    refine (HSO.out _ _ _ hS5.head).mono ?_
    rintro e w6 ⟨rfl, ho6, hg6⟩
    have hS6 := hS5.append ho6 hg6 (.inl rfl)
    clear ho6 hg6 hS5 HSO
    go_wp2_with fail
    refine (HCQ.out _ _ _ hS6.head).mono ?_
    rintro e w7 ⟨A7, c7, rfl, ho7, hg7, hv7⟩
    rw [HLQ.out] at ho7 hv7 ⊢
    have hS7 := hS6.append ho7 hg7 (.inl hv7)
    clear ho7 hg7 hv7 hS6 HCQ HLQ
    obtain ⟨m, hm⟩ : ∃ m, L.length = m := ⟨_, rfl⟩
    have HM := Lib.hid hm
    have hm39 : m ≤ 39 := by rw [← hm]; exact HLN.out
    rw [hm] at hS7 ⊢
    clear hm HLN
    have hm2 : ¬ (2000 : Int) < (m : Int) := by omega
    go_wp2_with fail
    go_loopw [8] (fun s wr => ∃ k : Nat, 1 ≤ k ∧ (k = 1 ∨ k ≤ m) ∧ s = .int .i64 k ∧ Hid (∀ t, t < k → dupM L t = false) ∧ Sq w wr [rOwn w.heap.size 62 8 (.slice A7 m c7) m (L.flatMap bevC)]) (fun s _ => m - (intOf s).toNat)
    case atStart => exact ⟨1, Nat.le_refl _, .inl rfl, rfl, Lib.hid (fun t ht => by obtain rfl : t = 0 := (by omega); rfl), hS7⟩
    case round =>
      clear hS7
      obtain ⟨k, hk1, hkm, rfl, HD, hS⟩ := hrel
      by_cases hlt : k < m
      · clear hkm
        obtain ⟨j, hj⟩ : ∃ j, k = j + 1 := ⟨k - 1, by omega⟩
        subst hj
        have hkp : j + 1 < L.length := by rw [HM.out]; exact hlt
        obtain ⟨g, hg⟩ := own_ptr (hS.head : World.ownsRow _ _ _ _ _ _ _) (by omega)
        subst hg
        obtain ⟨p0, p1, p2, p3, p4, p5, p6, p7⟩ := ev_cells (hS.head : World.ownsRow _ _ _ _ _ _ _) j (by omega) (by omega)
        obtain ⟨q0, q1, q2, q3, q4, q5, q6, q7⟩ := ev_cells (hS.head : World.ownsRow _ _ _ _ _ _ _) (j + 1) hkp hlt
        have hdu := dupM_at hkp
        obtain ⟨⟨a0, a1, a2, a3, a4, a5, a6, a7⟩, hx⟩ : ∃ x, L[j] = x := ⟨_, rfl⟩
        obtain ⟨⟨b0, b1, b2, b3, b4, b5, b6, b7⟩, hy⟩ : ∃ x, L[j + 1] = x := ⟨_, rfl⟩
        rw [hx] at p0 p1 p2 p3 p4 p5 p6 p7 hdu
        rw [hy] at q0 q1 q2 q3 q4 q5 q6 q7 hdu
        simp only at p0 p1 p2 p3 p4 p5 p6 p7 q0 q1 q2 q3 q4 q5 q6 q7
        obtain ⟨K1, hK1⟩ : ∃ K1, j + 1 = K1 := ⟨_, rfl⟩
        rw [hK1] at hk1 hdu hkp hlt q0 q1 q2 q3 q4 q5 q6 q7 HD ⊢
        have HC2 : Hid (∀ V, Below wr.heap.size wr V → V.cell? ⟨g, j * 8, none⟩ = some (.int .i64 a0) ∧ V.cell? ⟨g, j * 8 + 1, none⟩ = some (.int .i64 a1) ∧ V.cell? ⟨g, j * 8 + 2, none⟩ = some (.string a2) ∧ V.cell? ⟨g, j * 8 + 3, none⟩ = some (.string a3) ∧ V.cell? ⟨g, j * 8 + 4, none⟩ = some (.string a4) ∧ V.cell? ⟨g, j * 8 + 5, none⟩ = some (.string a5) ∧ V.cell? ⟨g, j * 8 + 6, none⟩ = some (.int .i64 a6) ∧ V.cell? ⟨g, j * 8 + 7, none⟩ = some (.int .i64 a7) ∧ V.cell? ⟨g, K1 * 8, none⟩ = some (.int .i64 b0) ∧ V.cell? ⟨g, K1 * 8 + 1, none⟩ = some (.int .i64 b1) ∧ V.cell? ⟨g, K1 * 8 + 2, none⟩ = some (.string b2) ∧ V.cell? ⟨g, K1 * 8 + 3, none⟩ = some (.string b3) ∧ V.cell? ⟨g, K1 * 8 + 4, none⟩ = some (.string b4) ∧ V.cell? ⟨g, K1 * 8 + 5, none⟩ = some (.string b5) ∧ V.cell? ⟨g, K1 * 8 + 6, none⟩ = some (.int .i64 b6) ∧ V.cell? ⟨g, K1 * 8 + 7, none⟩ = some (.int .i64 b7)) := Lib.hid (fun V h => ⟨below_cell h p0, below_cell h p1, below_cell h p2, below_cell h p3, below_cell h p4, below_cell h p5, below_cell h p6, below_cell h p7, below_cell h q0, below_cell h q1, below_cell h q2, below_cell h q3, below_cell h q4, below_cell h q5, below_cell h q6, below_cell h q7⟩)
        have S1 : Below wr.heap.size wr wr.drew := below_drewN (Below.refl _ _) 1
        have hj0 : (0 : Int) ≤ (j : Int) := by omega
        have hjn : (j : Int) < (m : Int) := by omega
        have hk0 : (0 : Int) ≤ (K1 : Int) := by omega
        have hg0 : (0 : Int) < (K1 : Int) := by omega
        have hgd : decide ((0 : Int) < (K1 : Int)) = true := decide_eq_true hg0
        have hkn : (K1 : Int) < (m : Int) := by omega
        have hj1 : (K1 : Int) - 1 = (j : Int) := by omega
        have hw3 : IntKind.i64.wrap (j : Int) = (j : Int) := IntWalk.i64_in _ (by omega)
        obtain ⟨O, hO⟩ : ∃ O, ordBev ⟨a0, a1, a2, a3, a4, a5, a6, a7⟩ ⟨b0, b1, b2, b3, b4, b5, b6, b7⟩ = O := ⟨_, rfl⟩
        rw [hO] at hdu
        have HO := Lib.hid hO
        have HDU := Lib.hid hdu
        have HS := Lib.hid hS
        clear p0 p1 p2 p3 p4 p5 p6 p7 q0 q1 q2 q3 q4 q5 q6 q7 hx hy hO hdu hS
        have HBM : Hid (∀ W, Calls Tryz.prog 69 #[.agg #[.int .i64 a0, .int .i64 a1, .string a2, .string a3, .string a4, .string a5, .int .i64 a6, .int .i64 a7], .agg #[.int .i64 b0, .int .i64 b1, .string b2, .string b3, .string b4, .string b5, .int .i64 b6, .int .i64 b7]] W (BRet (.int .i64 O) W)) := Lib.hid (fun W => by rw [← HO.out]; exact byMoment_calls a0 a1 a6 a7 b0 b1 b6 b7 a2 a3 a4 a5 b2 b3 b4 b5 W)
        go_upto_region 10 with (fail)
        refine wp_region_held_drew (S := fun V => V.cell? ⟨g, j * 8, none⟩ = some (.int .i64 a0) ∧ V.cell? ⟨g, j * 8 + 1, none⟩ = some (.int .i64 a1) ∧ V.cell? ⟨g, j * 8 + 2, none⟩ = some (.string a2) ∧ V.cell? ⟨g, j * 8 + 3, none⟩ = some (.string a3) ∧ V.cell? ⟨g, j * 8 + 4, none⟩ = some (.string a4) ∧ V.cell? ⟨g, j * 8 + 5, none⟩ = some (.string a5) ∧ V.cell? ⟨g, j * 8 + 6, none⟩ = some (.int .i64 a6) ∧ V.cell? ⟨g, j * 8 + 7, none⟩ = some (.int .i64 a7) ∧ V.cell? ⟨g, K1 * 8, none⟩ = some (.int .i64 b0) ∧ V.cell? ⟨g, K1 * 8 + 1, none⟩ = some (.int .i64 b1) ∧ V.cell? ⟨g, K1 * 8 + 2, none⟩ = some (.string b2) ∧ V.cell? ⟨g, K1 * 8 + 3, none⟩ = some (.string b3) ∧ V.cell? ⟨g, K1 * 8 + 4, none⟩ = some (.string b4) ∧ V.cell? ⟨g, K1 * 8 + 5, none⟩ = some (.string b5) ∧ V.cell? ⟨g, K1 * 8 + 6, none⟩ = some (.int .i64 b6) ∧ V.cell? ⟨g, K1 * 8 + 7, none⟩ = some (.int .i64 b7)) (by kernel_rfl) (HC2.out _ S1) (fun hHeld => ?_)
        refine tkY 0 (.slice (some ⟨g, 0, none⟩) m c7) rfl hHeld ?_
        refine tkY 1 (.int .i64 K1) rfl hHeld ?_
        refine tkY 2 (.int .i64 j) rfl hHeld ?_
        refine tkY 3 (.pointer (some ⟨g, j * 8, none⟩)) rfl hHeld ?_
        refine tkY 4 (.agg #[.int .i64 a0, .int .i64 a1, .string a2, .string a3, .string a4, .string a5, .int .i64 a6, .int .i64 a7]) rfl hHeld ?_
        refine tkY 5 (.slice (some ⟨g, 0, none⟩) m c7) rfl hHeld ?_
        refine tkY 6 (.int .i64 K1) rfl hHeld ?_
        refine tkY 7 (.pointer (some ⟨g, K1 * 8, none⟩)) rfl hHeld ?_
        refine tkY 8 (.agg #[.int .i64 b0, .int .i64 b1, .string b2, .string b3, .string b4, .string b5, .int .i64 b6, .int .i64 b7]) rfl hHeld ?_
        refine tkC 9 rfl (fun K hK => ?_)
        go_simp
        go_at_call 69
        refine (HBM.out _).mono ?_
        rintro e w8 ⟨rfl, hb8⟩
        have S5 := below_call S1 hb8 (Nat.le_refl _)
        refine hK.out _ _ (HC2.out _ S5) (fun hHeld => ?_)
        clear hK K
        try simp only [Act.put, List.getElem_toArray, List.getElem_cons_zero, List.getElem_cons_succ, List.setIfInBounds_toArray, List.set_cons_zero, List.set_cons_succ]
        refine tkY 10 (.bool (decide (O = 0))) rfl hHeld ?_
        refine wpAnyH_done (by kernel_rfl) ?_ _
        have hS8 := HS.out.callB S5
        clear HC2 S1 S5 hb8 hHeld HS HBM HO
        cases hB : decide (O = 0)
        · have HDU2 : Hid (dupM L K1 = false) := Lib.hid (HDU.out.trans hB)
          go_wp2_with fail
          go_roundw
          case rel => exact ⟨K1 + 1, by omega, .inr (by omega), by go_num, Lib.hid (fun t ht => by
            rcases Nat.lt_or_ge t K1 with h | h
            · exact HD.out t h
            · obtain rfl : t = K1 := (by omega)
              exact HDU2.out), hS8⟩
          case measure => simp [intOf]; omega
        · have HY := Lib.hid (conM_yes hkp (HDU.out.trans hB))
          go_wp2_with fail
          go_ret2
          exact .inr ⟨by trivial, hS8.below, .inl ⟨HY.out, rfl⟩⟩
      · have HNO : Hid (conM L = false) := Lib.hid (conM_no (fun t ht => HD.out t (by rw [HM.out] at ht; omega)))
        have hb := hS.below
        have ho : wr.ownsRow w.heap.size 62 8 (.slice A7 m c7) m (L.flatMap bevC) := hS.head
        clear hS HD
        go_wp2_with fail
        go_ret2
        exact .inr ⟨by trivial, hb, .inr ⟨HNO.out, A7, c7, by rw [HM.out]; rfl, by rw [HM.out]; exact ho⟩⟩
  · have hne : (E != 0) = true := by rw [bne_iff_ne]; exact hz
    go_enter Tryz.func29, Tryz.ntmps29
    go_wp2_with fail
    refine HK1.out.mono ?_
    rintro e w1 ⟨rfl, hb1⟩
    go_wp2_with fail
    refine (HK2.out _ hb1).mono ?_
    rintro e w2 ⟨rfl, hb2⟩
    have hb3 := below_call hb1 hb2 (Nat.le_refl _)
    clear hb1 hb2
    go_wp2_with fail
    refine (HFI.out _).mono ?_
    rintro e w3 ⟨rfl, nq, rfl⟩
    have hb4 := ((((Sq.start w).callB hb3).alloc (.cells #[.int .i64 e1, .int .i64 e2] 33)).drewN nq).below
    go_wp2_with fail
    go_ret2
    exact .inl ⟨hz, rfl, hb4⟩
end Go.Proofs.YtebaaoacmmhppaaGreat
