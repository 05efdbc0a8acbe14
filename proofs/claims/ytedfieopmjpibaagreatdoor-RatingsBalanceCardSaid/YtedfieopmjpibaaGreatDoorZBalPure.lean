/-
  RatingsBalance in plain words: the stream's rated players are right, what two expect is one point, and what one gains the other one loses, but for rounding.
-/
import Derived.Test.YtedfieopmjpibaaGreatDoorZRatePlain
import Derived.Test.YtedfieopmjpibaaGreatDoorZRatMake
namespace Go.Proofs.YtedfieopmjpibaaGreatDoor
open Go Go.RowKit

/-- a rating of the stream's right players -/
def BalR (r : Rtd) : Prop := ∃ v : Int, 1300000 ≤ v ∧ v ≤ 1700999 ∧ r.2.1 = RatP.lowN v 1000 ∧ r.2.2 = RatP.lowD v 1000
theorem low_gcd {n d : Int} (hd : 0 < d) : Int.gcd (RatP.lowN n d) (RatP.lowD n d) = 1 := by
  unfold RatP.lowN RatP.lowD
  have hp : 0 < Int.gcd n d := Int.gcd_pos_of_ne_zero_right _ (by omega)
  exact Int.gcd_ediv_gcd_ediv_gcd hp
theorem low_dvd {n d : Int} : RatP.lowD n d ∣ d := by
  unfold RatP.lowD
  exact ⟨_, (Int.ediv_mul_cancel (Int.gcd_dvd_right n d)).symm⟩
theorem balR_ratF {r : Rtd} (h : BalR r) : ratF r.2.1 r.2.2 = 0 := by
  obtain ⟨v, h1, h2, e1, e2⟩ := h
  have p := RatP.lowD_pos (n := v) (d := 1000) (by omega)
  have q := RatP.low_mul (n := v) (d := 1000) (by omega)
  have m := Int.emod_eq_zero_of_dvd (low_dvd (n := v) (d := 1000))
  have g := low_gcd (n := v) (d := 1000) (by omega)
  rw [e1, e2]
  generalize RatP.lowN v 1000 = N at *
  generalize RatP.lowD v 1000 = D at *
  have b1 := Int.mul_le_mul_of_nonneg_right h1 (show 0 ≤ D by omega)
  have b2 := Int.mul_le_mul_of_nonneg_right h2 (show 0 ≤ D by omega)
  exact ratF_ok (by omega) g m (by omega) (by omega)
theorem balR_thou {v : Int} (_h1 : 1300000 ≤ v) (_h2 : v ≤ 1700999) : thou (RatP.lowN v 1000) (RatP.lowD v 1000) = v := by
  have p := RatP.lowD_pos (n := v) (d := 1000) (by omega)
  have q := RatP.low_mul (n := v) (d := 1000) (by omega)
  have m := Int.mul_ediv_cancel' (low_dvd (n := v) (d := 1000))
  unfold thou
  generalize RatP.lowN v 1000 = N at *
  generalize RatP.lowD v 1000 = D at *
  have : N * (1000 / D) * D = v * D := by rw [Int.mul_assoc, Int.mul_comm (1000 / D) D, m, q]
  exact Int.eq_of_mul_eq_mul_right (by omega) this
/-- thousandths, as the law reckons -/
theorem low_milli (v : Int) : (1000 * RatP.lowN v 1000).tdiv (max 1 (RatP.lowD v 1000)) = v := by
  have p := RatP.lowD_pos (n := v) (d := 1000) (by omega)
  have q := RatP.low_mul (n := v) (d := 1000) (by omega)
  generalize RatP.lowN v 1000 = N at *
  generalize RatP.lowD v 1000 = D at *
  rw [Int.max_eq_right (by omega), Int.mul_comm 1000 N, q]
  exact Int.mul_tdiv_cancel _ (by omega)

/-! ### names in order -/
theorem ratedG_sub : ∀ (rs : List Rtd) (last : ByteArray), (∀ r ∈ rs, BalR r ∧ keyB r.1.data.toList = true ∧ leS r.1 last = false) → (rs.map (·.1)).Pairwise (fun a b => leS b a = false) → ratedG last rs = 0
  | [], _, _, _ => rfl
  | r :: rs, last, h, hp => by
    obtain ⟨h1, h2, h3⟩ := h r (List.mem_cons_self ..)
    rw [List.map_cons, List.pairwise_cons] at hp
    rw [ratedG, if_neg (by rw [h2]; simp), if_neg (by rw [h3]; simp), if_pos (balR_ratF h1)]
    exact ratedG_sub rs r.1 (fun x hx => ⟨(h x (List.mem_cons_of_mem _ hx)).1, (h x (List.mem_cons_of_mem _ hx)).2.1, hp.1 _ (List.mem_map_of_mem hx)⟩) hp.2
theorem names4_key : ∀ s ∈ names4, keyB s.data.toList = true ∧ leS s ⟨#[]⟩ = false := by decide +kernel
theorem names4_pw : names4.Pairwise (fun a b => leS b a = false) := by decide +kernel
/-- the stream's right players -/
structure BalL (rs : List Rtd) : Prop where
  all : ∀ r ∈ rs, BalR r
  sub : (rs.map (·.1)).Sublist names4
theorem BalL.fault {rs : List Rtd} (h : BalL rs) (hl : rs.length ≤ 4) : ratedF rs = 0 := by
  unfold ratedF
  rw [if_neg (by omega)]
  refine ratedG_sub rs _ (fun r hr => ?_) (names4_pw.sublist h.sub)
  have := names4_key _ (h.sub.subset (List.mem_map_of_mem hr))
  exact ⟨h.all r hr, this.1, this.2⟩
theorem BalL.ne {a b : Rtd} {rs : List Rtd} (h : BalL (a :: b :: rs)) : eqS a.1 b.1 = false ∧ eqS b.1 a.1 = false := by
  have hp := names4_pw.sublist h.sub
  rw [List.map_cons, List.map_cons, List.pairwise_cons] at hp
  have := hp.1 b.1 (List.mem_cons_self ..)
  unfold leS at this
  rw [Bool.or_eq_false_iff] at this
  refine ⟨?_, this.2⟩
  have h2 := this.2
  unfold eqS
  rw [beq_eq_false_iff_ne] at h2 ⊢
  exact fun e => h2 e.symm

/-! ### two expect one point together -/
theorem expd_two (A B : Int) : RatP.expd A B + RatP.expd B A = 800000 := by unfold RatP.expd; omega
theorem two_point {E F D : Int} (hD : 0 < D) (h : E + F = D) : RatP.lowN E D * RatP.lowD F D + RatP.lowN F D * RatP.lowD E D = RatP.lowD E D * RatP.lowD F D := by
  have q1 := RatP.low_mul (n := E) (d := D) hD
  have q2 := RatP.low_mul (n := F) (d := D) hD
  obtain ⟨a, ha⟩ : ∃ z, RatP.lowN E D = z := ⟨_, rfl⟩
  obtain ⟨b, hb⟩ : ∃ z, RatP.lowD E D = z := ⟨_, rfl⟩
  obtain ⟨c, hc⟩ : ∃ z, RatP.lowN F D = z := ⟨_, rfl⟩
  obtain ⟨d, hd⟩ : ∃ z, RatP.lowD F D = z := ⟨_, rfl⟩
  rw [ha, hb] at q1
  rw [hc, hd] at q2
  rw [ha, hb, hc, hd]
  refine Int.eq_of_mul_eq_mul_right (show D ≠ 0 by omega) ?_
  calc (a * d + c * b) * D = (a * D) * d + (c * D) * b := by rw [Int.add_mul, Int.mul_right_comm, Int.mul_right_comm c]
    _ = (E * b) * d + (F * d) * b := by rw [q1, q2]
    _ = (E + F) * (b * d) := by rw [Int.add_mul, Int.mul_assoc, Int.mul_assoc F d b, Int.mul_comm d b]
    _ = b * d * D := by rw [h, Int.mul_comm]

/-! ### a race of two -/
def pts (k1 k2 : Int) : Int := if k1 < k2 then 800000 else if k1 = k2 then 400000 else 0
theorem pts_two (k1 k2 : Int) : pts k1 k2 + pts k2 k1 = 800000 := by unfold pts; split <;> split <;> (try split) <;> omega
theorem pts_bd (k1 k2 : Int) : 0 ≤ pts k1 k2 ∧ pts k1 k2 ≤ 800000 := by unfold pts; split <;> (try split) <;> omega
/-- the new rating in thousandths -/
def balN (A B k1 k2 wt : Int) : Int := RatP.clampR (RatP.near (A * 800 + wt * (pts k1 k2 - RatP.expd A B)) 800)
theorem balN_two {A B k1 k2 wt : Int} (hA : 1300000 ≤ A ∧ A ≤ 1700999) (hB : 1300000 ≤ B ∧ B ≤ 1700999) (hw : 1 ≤ wt ∧ wt ≤ 64) :
    max (A + B - (balN A B k1 k2 wt + balN B A k2 k1 wt)) (balN A B k1 k2 wt + balN B A k2 k1 wt - (A + B)) ≤ 1 := by
  have e := expd_two A B
  have p := pts_two k1 k2
  have p1 := pts_bd k1 k2
  have x1 := RatP.expd_bd A B
  obtain ⟨g, hg⟩ : ∃ g, pts k1 k2 - RatP.expd A B = g := ⟨_, rfl⟩
  have hg2 : pts k2 k1 - RatP.expd B A = -g := by omega
  have m := mul_bd (x := g) (y := wt) (X := 800000) (Y := 64) (by omega) (by omega) (by omega) (by omega) (by omega)
  rw [Int.mul_comm g wt] at m
  unfold balN
  rw [hg, hg2, Int.mul_neg]
  obtain ⟨u, hu⟩ : ∃ u, wt * g = u := ⟨_, rfl⟩
  rw [hu] at m ⊢
  unfold RatP.near RatP.clampR
  rw [if_neg (by omega), if_neg (by omega)]
  omega
end Go.Proofs.YtedfieopmjpibaaGreatDoor
/-
  RatingsBalance in plain words: what Rate makes of a race of the first two.
-/
namespace Go.Proofs.YtedfieopmjpibaaGreatDoor
open Go Go.RowKit

theorem run_maxB {P : Program} {w : World} (ts : Array TypeId) (t : TypeId) (k k' : IntKind) (x y : Int) : (Builtin.max_ ts t #[.int k x, .int k' y]).run P w = .ok (.int k (max x y)) w := by
  rw [run_max_int2, show (if y > x then y else x) = max x y by split <;> omega]
/-- a race of two -/
def race2 (a b : Rtd) (k1 k2 : Int) : List Res := [(k1, a.1, 0), (k2, b.1, 0)]
theorem eqS_self (s : ByteArray) : eqS s s = true := by unfold eqS; simp
theorem find_first (a : Rtd) (t : List Rtd) : findR (a :: t) a.1 = 0 := by
  unfold findR ixOf
  rw [if_pos (eqS_self _)]
theorem find_second (a b : Rtd) (t : List Rtd) (h : eqS a.1 b.1 = false) : findR (a :: b :: t) b.1 = 1 := by
  unfold findR
  have h1 : ixOf (fun r : Rtd => eqS r.1 b.1) (b :: t) = 0 := find_first b t
  rw [ixOf, if_neg (by simp [h]), h1]
  rfl
theorem race2_gain1 (a b : Rtd) (t : List Rtd) (k1 k2 A B : Int) (h : eqS b.1 a.1 = false) (ha : thouR (a :: b :: t) a.1 = A) (hb : thouR (a :: b :: t) b.1 = B) :
    gainTo (a :: b :: t) (race2 a b k1 k2) (k1, a.1, 0) 2 = pts k1 k2 - RatP.expd A B := by
  show gainS (a :: b :: t) (k1, a.1, 0) (gainS (a :: b :: t) (k1, a.1, 0) 0 (k1, a.1, 0)) (k2, b.1, 0) = _
  unfold gainS
  simp only
  rw [h, eqS_self, if_neg (by simp), if_pos rfl, ha, hb]
  show 0 + pts k1 k2 - RatP.expd A B = _
  omega
theorem race2_gain2 (a b : Rtd) (t : List Rtd) (k1 k2 A B : Int) (h : eqS a.1 b.1 = false) (ha : thouR (a :: b :: t) a.1 = A) (hb : thouR (a :: b :: t) b.1 = B) :
    gainTo (a :: b :: t) (race2 a b k1 k2) (k2, b.1, 0) 2 = pts k2 k1 - RatP.expd B A := by
  show gainS (a :: b :: t) (k2, b.1, 0) (gainS (a :: b :: t) (k2, b.1, 0) 0 (k1, a.1, 0)) (k2, b.1, 0) = _
  unfold gainS
  simp only
  rw [h, eqS_self, if_pos rfl, if_neg (by simp), ha, hb]
  show 0 + pts k2 k1 - RatP.expd B A = _
  omega
theorem race2_fault {a b : Rtd} {t : List Rtd} (h : BalL (a :: b :: t)) (hl : (a :: b :: t).length ≤ 4) {k1 k2 wt : Int} (h1 : 1 ≤ k1 ∧ k1 ≤ 2) (h2 : 1 ≤ k2 ∧ k2 ≤ 2) (hw : 1 ≤ wt ∧ wt ≤ 64) : ratesF (a :: b :: t) (race2 a b k1 k2) wt = 0 := by
  have o1 : outB k1 1 128 = false := by unfold outB; simp; omega
  have o2 : outB k2 1 128 = false := by unfold outB; simp; omega
  have o3 : outB wt 1 1000 = false := by unfold outB; simp; omega
  have hh : hasR ((race2 a b k1 k2).take 1) b.1 = false := by
    show (eqS a.1 b.1 || false) = false
    rw [h.ne.1]
    rfl
  have hr : resF (a :: b :: t) (race2 a b k1 k2) wt = 0 := by
    unfold resF
    rw [if_neg (by show ¬ 128 < 2; omega)]
    show resG _ _ _ 0 [(k1, a.1, 0), (k2, b.1, 0)] = 0
    rw [resG]
    simp only
    rw [find_first, if_neg (by omega), if_neg (by show ¬ (false = true); simp), o1, if_neg (by simp), resG]
    simp only
    rw [find_second _ _ _ h.ne.1, if_neg (by omega), hh, if_neg (by simp), o2, if_neg (by simp), resG, o3, if_neg (by simp), if_neg (by show ¬ (2 = 1); omega)]
  unfold ratesF
  rw [if_pos (h.fault hl)]
  exact hr
theorem race2_rate {a b : Rtd} {t : List Rtd} (h : BalL (a :: b :: t)) {k1 k2 wt A B : Int} (ha : thou a.2.1 a.2.2 = A) (hb : thou b.2.1 b.2.2 = B) :
    rateTo (a :: b :: t) (race2 a b k1 k2) wt (race2 a b k1 k2).length = (a.1, RatP.lowN (balN A B k1 k2 wt) 1000, RatP.lowD (balN A B k1 k2 wt) 1000) :: (b.1, RatP.lowN (balN B A k2 k1 wt) 1000, RatP.lowD (balN B A k2 k1 wt) 1000) :: t := by
  have f1 := find_first a (b :: t)
  have f2 := find_second a b t h.ne.1
  have tA : thouR (a :: b :: t) a.1 = A := by
    unfold thouR atR
    rw [f1]
    exact ha
  have tB : thouR (a :: b :: t) b.1 = B := by
    unfold thouR atR
    rw [f2]
    exact hb
  have g1 := race2_gain1 a b t k1 k2 A B h.ne.2 tA tB
  have g2 := race2_gain2 a b t k1 k2 A B h.ne.1 tA tB
  have n1 : newT (a :: b :: t) (race2 a b k1 k2) wt (k1, a.1, 0) = balN A B k1 k2 wt := by
    unfold newT balN
    rw [show (race2 a b k1 k2).length = 2 from rfl, g1, tA, show (((2 : Nat) : Int) - 1) = 1 from rfl, Int.mul_one, Int.one_mul]
  have n2 : newT (a :: b :: t) (race2 a b k1 k2) wt (k2, b.1, 0) = balN B A k2 k1 wt := by
    unfold newT balN
    rw [show (race2 a b k1 k2).length = 2 from rfl, g2, tB, show (((2 : Nat) : Int) - 1) = 1 from rfl, Int.mul_one, Int.one_mul]
  show rateS _ _ wt (rateS _ _ wt (a :: b :: t) (k1, a.1, 0)) (k2, b.1, 0) = _
  have s1 : rateS (a :: b :: t) (race2 a b k1 k2) wt (a :: b :: t) (k1, a.1, 0) = (a.1, RatP.lowN (balN A B k1 k2 wt) 1000, RatP.lowD (balN A B k1 k2 wt) 1000) :: b :: t := by
    unfold rateS newR
    simp only
    rw [f1, n1]
    rfl
  rw [s1]
  unfold rateS newR
  simp only
  rw [f2, n2]
  rfl
end Go.Proofs.YtedfieopmjpibaaGreatDoor
/-
  RightRated once more: its players are right. (Printed by gen_balmake.py.)
-/
namespace Go.Proofs.YtedfieopmjpibaaGreatDoor
open Go Go.RowKit

theorem str_cellB {w : World} {g : Nat} {t : TypeId} {cs : Array Value} (ss : List ByteArray) (h : Blk w g t cs) (hc : cs = (ss.map Value.string).toArray) (hs : ∀ s ∈ ss, s.size ≤ 1000) (k : Nat) (hk : k < ss.length) :
    ∃ s : ByteArray, w.cell? ⟨g, k, none⟩ = some (.string s) ∧ s.size ≤ 1000 ∧ ss[k]? = some s :=
  ⟨ss[k], by rw [h.cell, hc, strs_at ss k hk], hs _ (List.getElem_mem hk), List.getElem?_eq_getElem hk⟩
def RatedB (b K : Nat) (w : World) (e : Ending) (w' : World) : Prop :=
  ∃ (v : Value) (rs : List Rtd), e = .returned v ∧ w'.ownsRow w.heap.size 44 3 v rs.length (rs.flatMap ratedC) ∧ rs.length ≤ 4 ∧ Rts rs ∧ BalL rs ∧ Strm w' b K ∧ Bx w.heap.size b w w'
set_option maxRecDepth 100000 in
theorem rightRatedB_calls (b K : Nat) (w : World) (hs : Strm w b K) (hK : K ≤ 1000000) :
    Calls Tryz.prog 13 #[.pointer (some ⟨b, 0, none⟩)] w (RatedB b (K + 12) w) := by
  have hlt := hs.lt
  obtain ⟨i0, hi, hz0, hz1, hz2⟩ := info_parts info_rated
  go_enter Tryz.func13, Tryz.ntmps13
  go_wp2_with fail
  go_loopw [3, 8] (fun v i wr => ∃ (k : Nat) (rs : List Rtd), k ≤ 4 ∧ rs.length ≤ k ∧ i = .int .i64 k ∧ wr.ownsRow w.heap.size 44 3 v rs.length (rs.flatMap ratedC) ∧ Rts rs ∧ Hid ((∀ r ∈ rs, BalR r) ∧ (rs.map (·.1)).Sublist (names4.take k)) ∧ Strm wr b (K + 3 * k) ∧ Bx w.heap.size b w wr ∧
      Blk wr w.heap.size 9 (names4.map Value.string).toArray) (fun _ i _ => 4 - (intOf i).toNat)
  case atStart => exact ⟨0, [], Nat.zero_le _, Nat.zero_le _, rfl, World.ownsRow_nil _ _ _ _, (by intro x hx; cases hx), Lib.hid ⟨(by intro x hx; cases hx), List.Sublist.refl _⟩, hs.alloc _, (Bx.refl _ _ _).alloc (Nat.le_refl _) _, Blk.new _ _ _⟩
  case round =>
    obtain ⟨k, rs, hk, hrk, rfl, hown, hrs, HB, hsr, hbr, hblk⟩ := hrel
    by_cases hlt4 : k < 4
    · obtain ⟨s, hnm, hsz, hsn⟩ := str_cellB names4 hblk rfl names4_le k hlt4
      have HSN := Lib.hid hsn
      clear hsn
      go_wp2_with fail
      refine (flip_calls b _ _ _ (by omega) (by omega) hsr (by omega)).mono ?_
      rintro e w1 ⟨v, rfl, hs1, hb1⟩
      have hb1' := hbr.call hb1 (Nat.le_refl _)
      have hown1 := own_bx hown hb1 (by omega)
      have hblk1 := hblk.bx hb1 (by omega)
      clear hown hblk hsr hbr hb1 hnm
      cases v
      · go_wp2_with fail
        refine (range_calls b _ _ _ _ (by omega) (by omega) (by omega) hs1 (by omega)).mono ?_
        rintro e w2 ⟨p, rfl, p1, p2, hs2, hb2⟩
        go_wp2_with fail
        refine (range_calls b _ _ _ _ (by omega) (by omega) (by omega) hs2 (by omega)).mono ?_
        rintro e w3 ⟨q, rfl, q1, q2, hs3, hb3⟩
        go_wp2_with fail
        refine (lowest_calls _ _ _ (by omega) (by omega) (by omega) (by omega)).mono ?_
        rintro e w4 ⟨rfl, hb4⟩
        have HBR : Hid (BalR (s, RatP.lowN (1000 * p + q) 1000, RatP.lowD (1000 * p + q) 1000)) := ⟨1000 * p + q, by omega, by omega, rfl, rfl⟩
        have hlo := low_I64 (n := 1000 * p + q) (d := 1000) (by omega) (by omega) (by omega)
        have hown2 := own_below (own_bx (own_bx hown1 hb2 (by omega)) hb3 (by omega)) hb4
        have hblk2 := ((hblk1.bx hb2 (by omega)).bx hb3 (by omega)).below hb4
        have hs4 := hs3.below hb4
        have hb5 := ((hb1'.call hb2 (Nat.le_refl _)).call hb3 (Nat.le_refl _)).callB hb4 (Nat.le_refl _)
        obtain ⟨N, hN⟩ : ∃ N, RatP.lowN (1000 * p + q) 1000 = N := ⟨_, rfl⟩
        obtain ⟨D, hD⟩ : ∃ D, RatP.lowD (1000 * p + q) 1000 = D := ⟨_, rfl⟩
        rw [hN, hD] at hlo HBR ⊢
        clear hown1 hblk1 hs1 hs2 hs3 hb1' hb2 hb3 hb4 hN hD
        have hbz := hb5.size
        go_wp2_with (first
          | (at_builtin; refine wpList_append_own _ rfl _ _ 41 rfl w.heap.size 44 i0 (.agg #[.string ⟨#[]⟩, .int .i64 0, .int .i64 0]) 3 32 Tryz.underlying41 hi hz0 hz1 hz2 rfl (by decide) _ _ _ rfl (hown2.alloc _) ⟨w4.heap.size, 0, none⟩ 1 1 [.string s, .int .i64 N, .int .i64 D] rfl rfl (World.news_of_block (heap_alloc_new _ _)) (by simp [Value.oneCell']) (by unfold maxLen; omega) (by omega) (by simp; omega) ?_; intro v' w5 hown' hgrow hnil))
        have hb6 : Bx w.heap.size b w w5 := (hb5.alloc (Nat.le_refl _) _).grown hgrow (Nat.le_refl _) (fun q hq => .inr (hown2.lt q hq).1)
        have hs5 := (hs4.alloc _).grown hgrow (fun q hq => by have := (hown2.lt q hq).1; omega)
        have hblk3 := (hblk2.alloc _).grown hgrow (own_blk_ne hown2 hblk2 (by decide)).symm
        have hrs' := hrs.snoc (r := (s, N, D)) ⟨hsz, hlo⟩
        have hown3 : w5.ownsRow w.heap.size 44 3 v' (rs ++ [(s, N, D)]).length ((rs ++ [(s, N, D)]).flatMap ratedC) := by
          rw [flat_snoc, List.length_append]; exact hown'
        have HB' : Hid ((∀ r ∈ rs ++ [(s, N, D)], BalR r) ∧ ((rs ++ [(s, N, D)]).map (·.1)).Sublist (names4.take (k + 1))) := by
          refine Lib.hid ⟨fun r hr => ?_, ?_⟩
          · rcases List.mem_append.1 hr with hr | hr
            · exact HB.out.1 r hr
            · simp at hr; subst hr; exact HBR.out
          · rw [List.take_add_one, HSN.out, List.map_append]
            exact HB.out.2.append (List.Sublist.refl _)
        have hle : (rs ++ [(s, N, D)]).length ≤ k + 1 := by simp; omega
        clear hown' hgrow hnil hown2 hblk2 hb5 hs4
        go_wp2
        go_roundw
        case rel => exact ⟨k + 1, _, by omega, hle, by go_num, hown3, hrs', HB', hs5.more (by omega), hb6, hblk3⟩
        case measure => simp [intOf]; omega
      · go_wp2
        go_roundw
        case rel => exact ⟨k + 1, rs, by omega, by omega, by go_num, hown1, hrs, Lib.hid ⟨HB.out.1, by rw [List.take_add_one, HSN.out]; exact HB.out.2.trans (List.sublist_append_left _ _)⟩, hs1.more (by omega), hb1', hblk1⟩
        case measure => simp [intOf]; omega
    · go_wp2
      go_ret
      exact ⟨_, rs, rfl, hown, by omega, hrs, ⟨HB.out.1, HB.out.2.trans (List.take_sublist _ _)⟩, hsr.more (by omega), hbr⟩
end Go.Proofs.YtedfieopmjpibaaGreatDoor
